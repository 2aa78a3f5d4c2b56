/- Walk: the alphabet's letters of a text, as an iterator (alphabet.letters). -/
import Derived.Test.YtielbaaaipkbdaaGreatDoorA5
import Derived.RangeFuncNested
import Derived.RangeFuncBound
import Derived.RangeFuncCalls
import Derived.RangeFuncLeaves
import Derived.Shelf.Abstract
import Derived.Shelf.RegionOpen
import Derived.OwnWalkIn
import Derived.TacticsInMore
import Derived.LoopNIn
import Derived.LoopIn
namespace Go.Proofs.YtielbaaaipkbdaaGreatDoor
open Go.RowKit Classical
open Go.Shelf
attribute [local go_sem] Oper.semAt_some

/-- The letters of t, which stands at an offset, with their offsets; -1 where none begins, and no more. -/
def lseq (L : List (List UInt8)) : Nat → List UInt8 → Nat → List (Nat × Int)
  | 0, _, _ => []
  | f + 1, t, o => if t = [] then [] else match atF L t with
    | none => [(o, -1)]
    | some k => (o, (k : Int)) :: lseq L f (t.drop ((L[k]?.getD []).length)) (o + (L[k]?.getD []).length)

theorem lseq_nil (L : List (List UInt8)) (f o : Nat) : lseq L f [] o = [] := by cases f <;> simp [lseq]

theorem lseq_mem (L : List (List UInt8)) : ∀ (f : Nat) (t : List UInt8) (o : Nat) (y : Nat × Int), y ∈ lseq L f t o → 0 ≤ y.2 ∨ y.2 = -1
  | 0, _, _, _, h => by simp [lseq] at h
  | f + 1, t, o, y, h => by
    rw [lseq] at h
    by_cases ht : t = []
    · rw [if_pos ht] at h; simp at h
    · rw [if_neg ht] at h
      cases hk : atF L t with
      | none => rw [hk] at h; simp at h; rw [h]; exact .inr rfl
      | some k =>
        rw [hk] at h
        rcases List.mem_cons.1 h with rfl | h
        · left; simp
        · exact lseq_mem L f _ _ y h
theorem lread_done (L : List (List UInt8)) : ∀ (fu f : Nat) (t : List UInt8) (o : Nat) (acc : List Int) (ys : List (Nat × Int)), (∀ l ∈ L, 1 ≤ l.length) → t.length < fu → lseq L fu t o = ys → (∀ y ∈ ys, 0 ≤ y.2) → ys.length ≤ f →
    readGo L f t o acc = ⟨acc ++ ys.map (·.2), 0, 0⟩
  | 0, _, t, _, _, _, _, h, _, _, _ => by omega
  | fu + 1, f, t, o, acc, ys, hL, hf, hs, h0, hlen => by
    rw [lseq] at hs
    by_cases ht : t = []
    · subst ht; simp at hs; subst hs; simp [readGo_nil]
    · rw [if_neg ht] at hs
      cases hk : atF L t with
      | none =>
        rw [hk] at hs; subst hs
        have := h0 (o, -1) (by simp)
        simp at this
      | some k =>
        rw [hk] at hs
        simp only at hs
        obtain ⟨l, hl, hp, h1, _⟩ := atN_some hk
        rw [hl] at hs
        simp only [Option.getD_some] at hs
        subst hs
        obtain ⟨f', rfl⟩ : ∃ f', f = f' + 1 := ⟨f - 1, by simp at hlen; omega⟩
        rw [readGo_step ht hk hl]
        have htl : 0 < t.length := List.length_pos_iff.2 ht
        rw [lread_done L fu f' _ _ _ _ hL (by rw [List.length_drop]; omega) rfl (fun y hy => h0 y (by simp [hy])) (by simpa using hlen), List.map_cons, List.append_assoc]
        rfl
theorem lread_char (L : List (List UInt8)) : ∀ (fu f : Nat) (t : List UInt8) (o : Nat) (acc : List Int) (pre rest : List (Nat × Int)) (o' : Nat), (∀ l ∈ L, 1 ≤ l.length) → t.length < fu → lseq L fu t o = pre ++ (o', -1) :: rest → (∀ y ∈ pre, 0 ≤ y.2) → pre.length ≤ f →
    readGo L f t o acc = ⟨[], 3, o'⟩
  | 0, _, t, _, _, _, _, _, _, h, _, _, _ => by omega
  | fu + 1, f, t, o, acc, pre, rest, o', hL, hf, hs, h0, hlen => by
    rw [lseq] at hs
    by_cases ht : t = []
    · subst ht; simp at hs
    · rw [if_neg ht] at hs
      cases hk : atF L t with
      | none =>
        rw [hk] at hs
        cases pre with
        | nil => simp at hs; rw [readGo_none ht hk, hs.1]
        | cons p pre => simp at hs
      | some k =>
        rw [hk] at hs
        simp only at hs
        obtain ⟨l, hl, hp, h1, _⟩ := atN_some hk
        rw [hl] at hs
        simp only [Option.getD_some] at hs
        have htl : 0 < t.length := List.length_pos_iff.2 ht
        cases pre with
        | nil => simp at hs
        | cons p pre =>
          simp only [List.cons_append, List.cons.injEq] at hs
          obtain ⟨f', rfl⟩ : ∃ f', f = f' + 1 := ⟨f - 1, by simp at hlen; omega⟩
          rw [readGo_step ht hk hl]
          exact lread_char L fu f' _ _ _ pre rest o' hL (by rw [List.length_drop]; omega) hs.2 (fun y hy => h0 y (by simp [hy])) (by simpa using hlen)
theorem lread_full (L : List (List UInt8)) : ∀ (fu f : Nat) (t : List UInt8) (o : Nat) (acc : List Int) (pre rest : List (Nat × Int)) (x : Nat × Int), (∀ l ∈ L, 1 ≤ l.length) → t.length < fu → lseq L fu t o = pre ++ x :: rest → (∀ y ∈ pre, 0 ≤ y.2) → 0 ≤ x.2 → pre.length = f →
    readGo L f t o acc = ⟨[], 2, x.1⟩
  | 0, _, t, _, _, _, _, _, _, h, _, _, _, _ => by omega
  | fu + 1, f, t, o, acc, pre, rest, x, hL, hf, hs, h0, hx, hlen => by
    rw [lseq] at hs
    by_cases ht : t = []
    · subst ht; simp at hs
    · rw [if_neg ht] at hs
      cases hk : atF L t with
      | none =>
        rw [hk] at hs
        cases pre with
        | nil => simp at hs; obtain ⟨rfl, _⟩ := hs; simp at hx
        | cons p pre => simp at hs
      | some k =>
        rw [hk] at hs
        simp only at hs
        obtain ⟨l, hl, hp, h1, _⟩ := atN_some hk
        rw [hl] at hs
        simp only [Option.getD_some] at hs
        have htl : 0 < t.length := List.length_pos_iff.2 ht
        cases pre with
        | nil =>
          simp at hs hlen
          subst hlen
          rw [readGo_full ht hk, ← hs.1]
        | cons p pre =>
          simp only [List.cons_append, List.cons.injEq] at hs
          obtain ⟨f', rfl⟩ : ∃ f', f = f' + 1 := ⟨f - 1, by simp at hlen; omega⟩
          rw [readGo_step ht hk hl]
          exact lread_full L fu f' _ _ _ pre rest x hL (by rw [List.length_drop]; omega) hs.2 (fun y hy => h0 y (by simp [hy])) hx (by simpa using hlen)

theorem atN_short {L : List (List UInt8)} {t : List UInt8} : ∀ n, t.length ≤ n → atN L t n = atN L t t.length := by
  intro n
  induction n with
  | zero => intro h; rw [Nat.le_zero.1 h]
  | succ n ih =>
    intro h
    rcases Nat.lt_or_ge n t.length with h1 | h1
    · rw [show t.length = n + 1 from by omega]
    · rw [atN, if_neg (fun hh => by omega), ih h1]
theorem atN_min {L : List (List UInt8)} {t : List UInt8} {m : Nat} (h : m = min 3 t.length) : atN L t m = atN L t 3 := by
  rcases Nat.lt_or_ge t.length 3 with h1 | h1
  · rw [atN_short 3 (by omega), show m = t.length from by omega]
  · rw [show m = 3 from by omega]

/-- Three blocks lie as they lay. -/
structure Keep3 (a b c : Nat) (W W' : World) : Prop where
  k1 : W'.heap[a]? = W.heap[a]?
  k2 : W'.heap[b]? = W.heap[b]?
  k3 : W'.heap[c]? = W.heap[c]?
theorem cell_block {W W' : World} {a : Nat} (h : W'.heap[a]? = W.heap[a]?) (o : Nat) : W'.cell? ⟨a, o, none⟩ = W.cell? ⟨a, o, none⟩ := by
  simp only [World.cell?, h]
theorem Keep3.refl (a b c : Nat) (W : World) : Keep3 a b c W W := ⟨rfl, rfl, rfl⟩
theorem Keep3.trans {a b c : Nat} {X Y Z : World} (h : Keep3 a b c X Y) (k : Keep3 a b c Y Z) : Keep3 a b c X Z := ⟨k.k1.trans h.k1, k.k2.trans h.k2, k.k3.trans h.k3⟩
theorem Keep3.drewN {a b c : Nat} {X Y : World} (h : Keep3 a b c X Y) (n : Nat) : Keep3 a b c X (Y.drewN n) := ⟨h.k1, h.k2, h.k3⟩

theorem grown_drewN (w : World) (n : Nat) : w.grownBy (w.drewN n) none := ⟨rfl, rfl, rfl, Nat.le_refl _, fun _ _ _ => rfl⟩

set_option maxRecDepth 100000 in
set_option maxHeartbeats 2000000 in
theorem letters1_in (n : Nat) (hn : 1 ≤ n) (l Bt Bm b : Nat) (A : Alph) (hnd : A.bls.Nodup) (_hpos : ∀ l ∈ A.bls, 1 ≤ l.length ∧ l.length ≤ 3) (s : ByteArray) (hs : s.size ≤ maxLen)
    (J Jx : List (Nat × Int) → World → Prop) (hJ : ∀ p W n, J p W → J p (W.drewN n))
    (hY : ∀ pre x W, J pre W → pre.length < (lseq A.bls (s.size + 1) (bl s) 0).length → YieldAt Fence.wide (n - 1) Tryz.prog l #[.int .i64 (x.1 : Int), .int .i64 x.2] W fun e W' =>
      (e = .returned (.bool true) ∧ J (pre ++ [x]) W' ∧ Keep3 Bt Bm b W W') ∨ (e = .returned (.bool false) ∧ Jx (pre ++ [x]) W'))
    (W : World) (hct : W.cell? ⟨Bt, 0, none⟩ = some (.string s)) (hcm : W.cell? ⟨Bm, 0, none⟩ = some (.map (some b))) (hM : MapIs W b OkStr (pairs A.letters)) (h0 : J [] W) :
    CallsIn Fence.wide n Tryz.prog 82 #[.func (.yield l) #[] #[], .pointer (some ⟨Bt, 0, none⟩), .pointer (some ⟨Bm, 0, none⟩)] W fun e W' => (∃ v, e = .returned v) ∧
      ((∃ ys, ys = lseq A.bls (s.size + 1) (bl s) 0 ∧ J ys W') ∨ (∃ pre, pre <+: lseq A.bls (s.size + 1) (bl s) 0 ∧ Jx pre W')) := by
  have hs2 := hs
  unfold maxLen at hs
  refine callsIn_of_wp Tryz.func82 rfl trivial ?_ rfl
  simp only [Tryz.ntmps82, List.size_toArray, List.length_cons, List.length_nil, Nat.reduceAdd, Nat.reduceSub, Array.replicate_succ, Array.replicate_zero, List.push_toArray, List.append_toArray, List.nil_append, List.cons_append]
  obtain ⟨SQ, hSQ⟩ : ∃ SQ, lseq A.bls (s.size + 1) (bl s) 0 = SQ := ⟨_, rfl⟩
  have HSQ := Lib.hid hSQ
  rw [hSQ] at hY ⊢
  clear hSQ
  gi_wp2
  gi_loopw [4] (fun i wr => ∃ (o f : Nat) (pre : List (Nat × Int)), i = .int .i64 o ∧ o ≤ s.size ∧ s.size - o < f ∧ SQ = pre ++ lseq A.bls f ((bl s).drop o) o ∧ J pre wr ∧ Keep3 Bt Bm b W wr) (fun i _ => s.size - (intOf i).toNat)
  case atStart => exact ⟨0, s.size + 1, [], rfl, Nat.zero_le _, by omega, by rw [← HSQ.out]; rfl, h0, Keep3.refl _ _ _ _⟩
  case round =>
    obtain ⟨o, f, pre, rfl, ho, hf, hseq, hJs, hbw⟩ := hrel
    have Hseq := Lib.hid hseq
    have HJs := Lib.hid hJs
    clear hseq hJs
    have ct : wr.cell? ⟨Bt, 0, none⟩ = some (.string s) := (cell_block hbw.k1 0).trans hct
    by_cases hlt : o < s.size
    · gi_wp2
      refine wpIn_wide.2 ?_
      go_quiet (fail)
      rw [show min (3 : Int) (↑s.size - ↑o) = ((min 3 (s.size - o) : Nat) : Int) from by omega]
      obtain ⟨m0, hm0⟩ : ∃ m0, min 3 (s.size - o) = m0 := ⟨_, rfl⟩
      rw [hm0]
      obtain ⟨wq, hwq⟩ : ∃ wq, wr.drewN nq = wq := ⟨_, rfl⟩
      have hbq : Keep3 Bt Bm b W wq := by rw [← hwq]; exact hbw.drewN _
      have hJq : J pre wq := by rw [← hwq]; exact hJ _ _ _ HJs.out
      rw [hwq]
      clear hwq ct hbw HJs
      have HJq := Lib.hid hJq
      obtain ⟨T, hT⟩ : ∃ T, (bl s).drop o = T := ⟨_, rfl⟩
      have hTl : T.length = s.size - o := by rw [← hT, List.length_drop, bl_length]
      have HTT := Lib.hid hT
      have hmin : m0 ≤ 3 ∧ m0 ≤ s.size - o := by omega
      have HAt := Lib.hid (show atN A.bls T m0 = atN A.bls T 3 from atN_min (by rw [hTl]; omega))
      have hTne : T ≠ [] := fun e => by rw [e] at hTl; simp at hTl; omega
      have HTl := Lib.hid hTl
      have HTne := Lib.hid hTne
      obtain ⟨f', rfl⟩ : ∃ f', f = f' + 1 := ⟨f - 1, by omega⟩
      clear hJq hT hm0 hTl hTne
      gi_wp2
      gi_loopw [5, 6] (fun i5 i6 wx => ∃ m : Nat, i5 = .int .i64 (-1) ∧ i6 = .int .i64 m ∧ m ≤ m0 ∧ atN A.bls T m = atN A.bls T 3 ∧ J pre wx ∧ Keep3 Bt Bm b W wx) (fun _ i6 _ => (intOf i6).toNat)
      case atStart => exact ⟨m0, rfl, rfl, Nat.le_refl _, HAt.out, HJq.out, hbq⟩
      case round =>
        obtain ⟨m, rfl, rfl, hm, hat, hJx, hbx⟩ := hrel
        have Hat := Lib.hid hat
        clear hat
        by_cases h0m : m = 0
        · subst h0m
          have hnone : atF A.bls T = none := Hat.out.symm
          have hsq : SQ = pre ++ (o, (-1 : Int)) :: [] := by
            rw [Hseq.out, HTT.out, lseq, if_neg HTne.out, hnone]
          obtain ⟨fn, tmps, assign, body, hy, hR⟩ := hY pre (o, (-1 : Int)) wr hJx (by rw [hsq]; simp)
          have Hsq := Lib.hid hsq
          clear hsq hnone
          dsimp only at hy
          gi_wp2
          refine hR.mono ?_
          rintro e W3 (⟨rfl, hJ3, hk3⟩ | ⟨rfl, hJx3⟩)
          · gi_wp2
            refine bodyPost_ret (results_none rfl _ _ _) rfl ?_
            exact ⟨⟨_, rfl⟩, .inl ⟨SQ, rfl, by rw [Hsq.out]; exact hJ3⟩⟩
          · gi_wp2
            refine bodyPost_ret (results_none rfl _ _ _) rfl ?_
            exact ⟨⟨_, rfl⟩, .inr ⟨_, by rw [Hsq.out]; exact List.prefix_refl _, hJx3⟩⟩
        · have hwrp : IntKind.i64.wrap ((o : Int) + (m : Int)) = (o : Int) + (m : Int) := IntWalk.i64_in _ (by omega)
          have hnn : 0 ≤ (o : Int) + (m : Int) := by omega
          have htn : ((o : Int) + (m : Int)).toNat = o + m := by omega
          have hle1 : (o : Int) + (m : Int) ≤ (s.size : Int) := by omega
          have hpos' : (0 : Int) < (m : Int) := by omega
          have ct : wr.cell? ⟨Bt, 0, none⟩ = some (.string s) := (cell_block hbx.k1 0).trans hct
          have cm : wr.cell? ⟨Bm, 0, none⟩ = some (.map (some b)) := (cell_block hbx.k2 0).trans hcm
          have hMr := hM.block hbx.k3
          obtain ⟨piece, hpiece⟩ : ∃ piece, s.extract o (o + m) = piece := ⟨_, rfl⟩
          have hpb : bl piece = T.take m := by
            rw [← hpiece, ← HTT.out]; unfold bl; rw [Lib.extract_data, show o + m - o = m from by omega]
          by_cases hin : piece ∈ A.letters
          · obtain ⟨k, hk⟩ := List.getElem?_of_mem hin
            have hlk := fun n => look_pair_some (hMr.drewN n) hk
            rw [← hpiece] at hlk
            have hbk : A.bls[k]? = some (T.take m) := by rw [Alph.bls, List.getElem?_map, hk]; simp [hpb]
            have hsome : atF A.bls T = some k := by
              unfold atF
              rw [← Hat.out]
              obtain ⟨m', rfl⟩ : ∃ m', m = m' + 1 := ⟨m - 1, by omega⟩
              rw [atN, if_pos ⟨by rw [HTl.out]; omega, List.mem_of_getElem? hbk⟩, idxOf_getElem hnd hbk]
            have hlenm : (T.take m).length = m := by rw [List.length_take, HTl.out]; omega
            have hsq : SQ = pre ++ (o, (k : Int)) :: lseq A.bls f' ((bl s).drop (o + m)) (o + m) := by
              rw [Hseq.out, HTT.out, lseq, if_neg HTne.out, hsome]
              simp only [hbk, Option.getD_some, hlenm]
              rw [← HTT.out, List.drop_drop]
            have Hsq := Lib.hid hsq
            clear hsq hsome hbk hk hin hpb hlenm hpiece
            gi_wp2
            refine wpIn_wide.2 ?_
            go_quiet (fail)
            obtain ⟨fn, tmps, assign, body, hy, hR⟩ := hY pre (o, (k : Int)) (wr.drewN nq) (hJ _ _ _ hJx) (by rw [Hsq.out]; simp)
            dsimp only at hy
            gi_wp2
            refine hR.mono ?_
            rintro e W3 (⟨rfl, hJ3, hk3⟩ | ⟨rfl, hJx3⟩)
            · gi_wp2
              exact ⟨⟨o + m, f', pre ++ [(o, (k : Int))], by go_num, by omega, by omega, by rw [Hsq.out]; simp, hJ3, (hbx.drewN nq).trans hk3⟩, by simp [intOf]; omega⟩
            · gi_wp2
              refine bodyPost_ret (results_none rfl _ _ _) rfl ?_
              exact ⟨⟨_, rfl⟩, .inr ⟨_, by rw [Hsq.out]; exact ⟨lseq A.bls f' ((bl s).drop (o + m)) (o + m), by simp⟩, hJx3⟩⟩
          · have hlk := fun n => look_pair_none (hMr.drewN n) hin
            rw [← hpiece] at hlk
            have hnext : atN A.bls T (m - 1) = atN A.bls T 3 := by
              rw [← Hat.out]
              obtain ⟨m', rfl⟩ : ∃ m', m = m' + 1 := ⟨m - 1, by omega⟩
              rw [atN, if_neg]
              · rfl
              · rintro ⟨_, h⟩
                obtain ⟨l', hl', he⟩ := List.mem_map.1 h
                rw [← hpb] at he
                exact hin (bl_inj he ▸ hl')
            have Hnext := Lib.hid hnext
            clear hnext hin hpb hpiece
            gi_wp2
            refine wpIn_wide.2 ?_
            go_quiet (fail)
            gi_wp2
            exact ⟨⟨m - 1, rfl, by rw [show ((m - 1 : Nat) : Int) = (m : Int) - 1 from by omega], by omega, Hnext.out, hJ _ _ _ hJx, hbx.drewN nq⟩, by simp [intOf]; omega⟩
    · obtain rfl : o = s.size := by omega
      gi_wp2
      go_end0
      refine ⟨⟨_, rfl⟩, .inl ⟨SQ, rfl, ?_⟩⟩
      have := Hseq.out
      rw [List.drop_of_length_le (by rw [bl_length]; exact Nat.le_refl _), lseq_nil, List.append_nil] at this
      rw [this]; exact HJs.out

set_option maxHeartbeats 1000000 in
theorem letters_any (b : Nat) (s : ByteArray) (w : World) :
    Calls Tryz.prog 53 #[.map (some b), .string s] w fun e w' => e = .returned (.func (.func 82) #[] #[.pointer (some ⟨w.heap.size + 1, 0, none⟩), .pointer (some ⟨w.heap.size, 0, none⟩)]) ∧
      w' = (w.alloc (.cells #[.map (some b)] 100)).alloc (.cells #[.string s] 9) := by
  go_enter Tryz.func53, Tryz.ntmps53
  go_wp2
  go_ret
  exact ⟨rfl, rfl⟩

end Go.Proofs.YtielbaaaipkbdaaGreatDoor
