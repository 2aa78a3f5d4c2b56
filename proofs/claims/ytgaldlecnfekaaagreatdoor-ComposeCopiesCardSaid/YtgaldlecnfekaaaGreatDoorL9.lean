/- Walk: lexer.Lex, as far as names need it. -/
import Derived.Test.YtgaldlecnfekaaaGreatDoorGM
import Derived.Test.YtgaldlecnfekaaaGreatDoorGX
namespace Go.Proofs.YtgaldlecnfekaaaGreatDoor
open Go.RowKit Classical

theorem fold_set_aux (d : Nat) : ∀ (l : List Value) (k : Nat) (Z : Array Value), ((l.zipIdx k).foldl (fun cs x => cs.setIfInBounds (d + x.2) x.1) Z).size = Z.size ∧
    ∀ j : Nat, (d + k + l.length ≤ Z.size) → ((l.zipIdx k).foldl (fun cs x => cs.setIfInBounds (d + x.2) x.1) Z)[j]? = if d + k ≤ j ∧ j < d + k + l.length then l[j - (d + k)]? else Z[j]?
  | [], k, Z => ⟨rfl, fun j _ => by rw [if_neg (by simp)]; rfl⟩
  | a :: l, k, Z => by
    obtain ⟨h1, h2⟩ := fold_set_aux d l (k + 1) (Z.setIfInBounds (d + k) a)
    refine ⟨by rw [List.zipIdx_cons, List.foldl_cons, h1]; simp, fun j hj => ?_⟩
    rw [List.zipIdx_cons, List.foldl_cons, h2 j (by simp at hj ⊢; omega)]
    simp only [List.length_cons] at hj ⊢
    by_cases e1 : j = d + k
    · subst e1
      rw [if_neg (by omega), if_pos (by omega)]
      have : d + k < Z.size := by omega
      simp [this]
    · by_cases e2 : d + (k + 1) ≤ j ∧ j < d + (k + 1) + l.length
      · rw [if_pos e2, if_pos (by omega)]
        rw [show j - (d + k) = (j - (d + (k + 1))) + 1 from by omega, List.getElem?_cons_succ]
      · rw [if_neg e2, if_neg (by omega)]
        simp [Array.getElem?_setIfInBounds]
        intro h; omega
theorem fold_set (C Z : Array Value) (hC : C.size = 256) (hZ : Z.size = 257) (F : Array Value) (hF : Array.foldl (fun cs (x : Value × Nat) => cs.setIfInBounds (1 + x.snd) x.fst) Z C.zipIdx 0 256 = F) :
    F.size = 257 ∧ F[0]? = Z[0]? ∧ ∀ c, c < 256 → F[1 + c]? = C[c]? := by
  have hl : F = (C.toList.zipIdx 0).foldl (fun cs (x : Value × Nat) => cs.setIfInBounds (1 + x.snd) x.fst) Z := by
    rw [← hF, show (256 : Nat) = C.zipIdx.size from by simp [hC], ← Array.foldl_toList, Array.toList_zipIdx]
  obtain ⟨h1, h2⟩ := fold_set_aux 1 C.toList 0 Z
  rw [← hl] at h1 h2
  have h3 : C.toList.length = 256 := by simpa using hC
  refine ⟨by rw [h1, hZ], ?_, fun c hc => ?_⟩
  · rw [h2 0 (by omega), if_neg (by omega)]
  · rw [h2 (1 + c) (by omega), if_pos (by omega)]
    simp

/-- What Lex returns, as far as names need it. -/
def LexPost (s : ByteArray) (w : World) (e : Ending) (w' : World) : Prop :=
  ∃ va c err off T, e = .returned (.tuple #[.slice va T.length c, .int .i64 err, .int .i64 off]) ∧ T.length ≤ 5000 ∧ RowAt w' w'.heap.size va (flatT T) ∧
    (nameB (bl s) = true ↔ err = 0 ∧ oneName s T) ∧ Below w.heap.size w w'

theorem info_tok : (Tryz.prog.info? 187).map (fun i => (i.zero, i.size, i.bytes)) = some (some (.agg #[.int .i64 0, .int .i64 0, .int .i64 0, .string ⟨#[]⟩]), 4, 40) := by kernel_rfl
set_option maxRecDepth 100000 in
set_option maxHeartbeats 2000000 in
theorem Lex_any (s : ByteArray) (hs : s.size ≤ maxLen) (w : World) :
    Calls Tryz.prog 128 #[.string s] w (LexPost s w) := by
  unfold maxLen at hs
  go_enter Tryz.func128, Tryz.ntmps128
  by_cases hl : s.size ≤ 20000
  · have d1 : decide ((20000 : Int) < (s.size : Int)) = false := by simp; omega
    go_wp2_with fail
    refine (classes_any w).mono ?_
    rintro e w1 ⟨rfl, hb1⟩
    generalize hC : cellsI clsL = C
    have hCs : C.size = 256 := by rw [← hC]; rfl
    have hF := fold_set C (Tryz.zeroCells206.setIfInBounds 0 (.string s)) hCs (by simp) _ rfl
    have hFs := hF.1
    have HF := Lib.hid hF.2
    have HC := Lib.hid hC
    clear hC hF
    go_wp2_with fail
    generalize hF0 : Array.foldl (fun cs (x : Value × Nat) => cs.setIfInBounds (1 + x.snd) x.fst) (Tryz.zeroCells206.setIfInBounds 0 (.string s)) C.zipIdx 0 256 = F at *
    clear hF0
    have hrow : (w1.alloc (Obj.cells Tryz.zeroCells206 206)).heap[w1.heap.size]? = some (.cells Tryz.zeroCells206 206 (0, 0)) := heap_alloc_new w1 _
    have hzs : Tryz.zeroCells206.size = 257 := by kernel_rfl
    have hF0 : F[0]? = some (.string s) := by rw [HF.out.1]; simp [hzs]
    have hFc : ∀ c, c < 256 → F[1 + c]? = some (.int .i64 (classOf c)) := fun c hc => by
      rw [HF.out.2 c hc, ← HC.out, cellsI_get clsL c (by simp [clsL]; omega)]
      simp [clsL]
    have hone : ∀ v ∈ F.toList, v.oneCell' = true := fun v hv => by
      obtain ⟨j, hj⟩ := List.getElem?_of_mem hv
      rw [Array.getElem?_toList] at hj
      have hjl : j < 257 := by have := (Array.getElem?_eq_some_iff.1 hj).1; omega
      cases j with
      | zero => rw [hF0] at hj; cases hj; rfl
      | succ c => rw [Nat.add_comm, hFc c (by omega)] at hj; cases hj; rfl
    have hst := run_storeCells_from (P := Tryz.prog) w1.heap.size 206 F.toList 0 Tryz.zeroCells206 (w1.alloc (Obj.cells Tryz.zeroCells206 206)) hrow (by rw [hzs]; simp [hFs]) hone
    rw [hst]
    simp only [Result.andThen_ok]
    rw [Oper.upon_skip]
    have hB2 : Below w.heap.size w ((w1.alloc (Obj.cells Tryz.zeroCells206 206)).setRow w1.heap.size (Tryz.zeroCells206.toList.take 0 ++ F.toList).toArray) := below_setRow (hb1.alloc hb1.size _) hb1.size _
    have hR2 : Blk ((w1.alloc (Obj.cells Tryz.zeroCells206 206)).setRow w1.heap.size (Tryz.zeroCells206.toList.take 0 ++ F.toList).toArray) w1.heap.size F 206 := by
      have := setRow_heap _ w1.heap.size Tryz.zeroCells206 (Tryz.zeroCells206.toList.take 0 ++ F.toList).toArray 206 _ hrow
      have e : (Tryz.zeroCells206.toList.take 0 ++ F.toList).toArray = F := by simp
      rw [e] at this ⊢
      exact this
    generalize (w1.alloc (Obj.cells Tryz.zeroCells206 206)).setRow w1.heap.size (Tryz.zeroCells206.toList.take 0 ++ F.toList).toArray = W1 at hB2 hR2 ⊢
    have hsc : ScanAt W1 w1.heap.size s := ⟨(hR2.cell 0).trans hF0, fun c hc => (hR2.cell (1 + c)).trans (hFc c hc)⟩
    have hlt1 := hR2.lt
    have hge1 := hb1.size
    obtain ⟨sb, hsb⟩ : ∃ sb, w1.heap.size = sb := ⟨_, rfl⟩
    rw [hsb] at hsc hlt1 hge1 ⊢
    clear hst hrow hone hFc hF0 HF HC hFs hzs hCs hR2 hsb hb1
    have hsm : s.size ≤ maxLen := by unfold maxLen; omega
    go_wp2_with fail
    refine (gap_any sb s 0 (Nat.zero_le _) hsm W1 hsc hlt1).mono ?_
    rintro e w2 ⟨⟨g0, rfl, _, hg0, hg0'⟩, hb2⟩
    have hI0 : LexInv s [] g0 := .inl ⟨rfl, hg0'⟩
    have HI0 := Lib.hid hI0
    clear hI0 hg0'
    obtain ⟨i0, hi, hz0, hz1, hz2⟩ := info_parts info_tok
    go_wp2_with fail
    go_loopw [6, 7] (fun out i wr => ∃ (T : List Tok) (k : Nat), i = .int .i64 k ∧ k ≤ s.size ∧ T.length ≤ 5000 ∧ wr.ownsRow W1.heap.size 187 4 out T.length (flatT T) ∧ LexInv s T k ∧ Below W1.heap.size W1 wr) (fun _ i _ => s.size - (intOf i).toNat)
    case atStart => exact ⟨[], g0, rfl, hg0, by simp, World.ownsRow_nil _ _ _ _, HI0.out, hb2⟩
    case round =>
      obtain ⟨T, k, rfl, hk, hT, hown, hinv, hbw⟩ := hrel
      have Hown := Lib.hid hown
      have Hinv := Lib.hid hinv
      clear hown hinv
      have hbwW := hB2.trans (hbw.mono hB2.size)
      have hszw := hbw.size
      by_cases hks : k < s.size
      · go_wp2_with fail
        refine (next_any sb s k hks (by omega) wr (hsc.below hbw hlt1) (by omega)).mono ?_
        rintro e w3 ⟨⟨kind, at_, n, text, en, err, rfl, hP⟩, hb3⟩
        have hbw3 := hbw.trans (hb3.mono hbw.size)
        have HP := Lib.hid hP
        have hbwW3 := hB2.trans (hbw3.mono hB2.size)
        clear hP
        unfold tokCells
        by_cases he : err = 0
        · subst he
          by_cases hT5 : T.length = 5000
          · have d5 : ((T.length : Int) == 5000) = true := by simp [hT5]
            obtain ⟨a, c, hav, hal, hra⟩ := RowAt.of_own Hown.out
            rw [hav]
            have Hno := Lib.hid (show nameB (bl s) = false by
              have h1 := lex_step (t := ⟨kind, at_, n, text⟩) Hinv.out hks HP.out
              rcases h1 with ⟨h2, _⟩ | ⟨⟨t, h2, _⟩, _⟩ | ⟨_, _, h3⟩
              · simp at h2
              · have := congrArg List.length h2
                simp at this; simp [this] at hT5
              · exact h3)
            have HT5 := Lib.hid hT5
            clear hT5
            go_wp2_with fail
            go_ret3
            refine ⟨none, 0, 2, _, [], rfl, by simp, fun h => by simp [flatT] at h, ?_, ?_⟩
            · rw [Hno.out]; simp
            · exact hbwW3.alloc hbwW3.size _
          · have d5 : ((T.length : Int) == 5000) = false := by simp; omega
            obtain ⟨a, c, hav, hal, hra⟩ := RowAt.of_own Hown.out
            subst hav
            have hT4 : T.length < 5000 := by omega
            clear hT5
            have hown3 := (own_below Hown.out hb3).alloc (.cells #[.int .i64 kind, .int .i64 at_, .int .i64 n, .string text] 187)
            have hs3 := hbw3.size
            have hs33 := hbwW3.size
            go_wp2_with (at_builtin; refine wpList_append_own _ rfl _ _ 183 rfl W1.heap.size 187 i0 _ 4 40 Tryz.underlying183 hi hz0 hz1 hz2 rfl (by decide) _ _ _ rfl (hown3.alloc _) ⟨w3.heap.size + 1, 0, none⟩ 1 1 [.int .i64 kind, .int .i64 at_, .int .i64 n, .string text] rfl rfl ?c1 ?c2 ?c3 ?c4 ?c5 ?_)
            case c1 =>
              have := cells_new (w3.alloc (.cells #[.int .i64 kind, .int .i64 at_, .int .i64 n, .string text] 187)) [.int .i64 kind, .int .i64 at_, .int .i64 n, .string text] 187
              simpa using this
            case c2 => simp [Value.oneCell']
            case c3 => unfold maxLen; omega
            case c4 => omega
            case c5 => simp; omega
            intro v' w4 hown4 hgrow4 _
            obtain ⟨g, cap, rfl⟩ := own_succ hown4
            have hb4 : Below W1.heap.size W1 w4 := ((hbw3.alloc hs3 _).alloc (by simp; omega) _).grown hgrow4 (by simp; omega) (fun k hk => (hown3.lt k hk).1)
            clear hgrow4 hown3 hra hal d5
            have hP := HP.out
            have hle : en ≤ s.size := (hP.1 rfl).2.1
            have hken : k < en := (hP.1 rfl).1
            clear hP
            have hscw4 := hsc.below hb4 hlt1
            go_wp2_with fail
            refine (gap_any sb s en hle hsm w4 hscw4 (by have := hb4.size; omega)).mono ?_
            rintro e w5 ⟨⟨g5, rfl, hg5, hg5', _⟩, hb5⟩
            go_wp2_with fail
            refine ⟨⟨T ++ [⟨kind, at_, n, text⟩], g5, rfl, hg5', ?_, ?_, ?_, hb4.trans (hb5.mono hb4.size)⟩, ?_⟩
            · simp; omega
            · rw [flatT_snoc]
              have := own_below hown4 hb5
              simpa [Tok.cells, tokCells] using this
            · exact lex_gap (lex_step (t := ⟨kind, at_, n, text⟩) Hinv.out hks HP.out) (by simp) hg5 hg5'
            · simp [intOf]; omega
        · have e1 : (err == 0) = false := by simpa using he
          have e2 : (err != 0) = true := by simpa using he
          have He := Lib.hid he
          clear he
          go_wp2_with fail
          go_ret3
          refine ⟨none, 0, err, _, [], rfl, by simp, fun h => by simp [flatT] at h, ?_, ?_⟩
          · rw [lex_err Hinv.out hks HP.out He.out]; simp [He.out]
          · exact hbwW3.alloc hbwW3.size _
      · have hinv := Lib.hid (lex_end Hinv.out (by omega))
        obtain ⟨a, c, hav, hal, hra⟩ := RowAt.of_own Hown.out
        subst hav
        have Hra := Lib.hid hra
        clear hra hal
        go_wp2_with fail
        go_ret3
        exact ⟨a, c, 0, 0, T, rfl, hT, Hra.out, by rw [← hinv.out]; simp, hbwW⟩
  · have d1 : decide ((20000 : Int) < (s.size : Int)) = true := by simp; omega
    go_wp2_with fail
    go_ret3
    refine ⟨none, 0, 2, -1, [], rfl, by simp, fun h => by simp [flatT] at h, ?_, Below.refl _ _⟩
    constructor
    · intro hb
      have := ((name_iff _).1 hb).2.2
      rw [bl_length] at this; omega
    · rintro ⟨h, _⟩; exact absurd h (by decide)

end Go.Proofs.YtgaldlecnfekaaaGreatDoor
