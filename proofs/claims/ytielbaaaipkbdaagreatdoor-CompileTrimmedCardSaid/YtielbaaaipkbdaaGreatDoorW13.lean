/- Walks of the reference's machine of rules (gazetteerref13): byteAt, begins. -/
import Derived.Test.YtielbaaaipkbdaaGreatDoorGX
import Derived.Test.YtielbaaaipkbdaaGreatDoorGV
import Derived.Test.YtielbaaaipkbdaaGreatDoorGS
namespace Go.Proofs.YtielbaaaipkbdaaGreatDoor
open Go.RowKit Classical

theorem wrap64_u8 (c : UInt8) : wrap64 (c.toNat : Int) = c.toNat := by
  have := c.toNat_lt
  unfold wrap64
  omega
theorem readGo_le (L : List (List UInt8)) : ∀ (f : Nat) (t : List UInt8) (o : Nat) (acc : List Int), (readGo L f t o acc).letters.length ≤ acc.length + f := by
  intro f
  induction f with
  | zero => intro t o acc; rw [readGo]; repeat' split
            all_goals simp
  | succ f ih =>
    intro t o acc
    rw [readGo]
    split
    · simp
    · split
      · simp
      · refine Nat.le_trans (ih _ _ _) ?_
        simp; omega
theorem readL_le (L : List (List UInt8)) (t : List UInt8) : (readL L t).letters.length ≤ 24 := by
  unfold readL
  split
  · simp
  · simpa using readGo_le L 24 t 0 []

def Rul.l (r : Rul) : RulL := ⟨bl r.src, bl r.dst, bl r.nxt, r.fin⟩

set_option maxRecDepth 100000 in
set_option maxHeartbeats 400000 in
theorem byteAt13_any (s : ByteArray) (i : Nat) (w : World) (_hs : s.size ≤ maxLen) :
    Calls Tryz.prog 37 #[.string s, .int .i64 i] w fun e w' => e = .returned (.int .i64 (byteL (bl s) i)) ∧ w' = w := by
  unfold maxLen at _hs
  go_enter Tryz.func37, Tryz.ntmps37
  by_cases hi : i < s.size
  · have hg := Lib.hid (bl_get s i hi)
    go_wp2
    go_ret
    refine ⟨ret_int ?_, rfl⟩
    rw [byteL, hg.out]
    exact wrap64_u8 _
  · have hg : (bl s)[i]? = none := List.getElem?_eq_none (by rw [bl_length]; omega)
    have Hg := Lib.hid hg
    clear hg
    go_wp2
    go_ret
    exact ⟨ret_int (by rw [byteL, Hg.out]), rfl⟩

set_option maxRecDepth 100000 in
set_option maxHeartbeats 1000000 in
theorem begins13_any (x o : Rul) (A : Alph) (hok : AlphOk A) (hx : x.src.size ≤ maxLen ∧ x.dst.size ≤ maxLen ∧ x.nxt.size ≤ maxLen) (ho : o.src.size ≤ maxLen ∧ o.dst.size ≤ maxLen ∧ o.nxt.size ≤ maxLen)
    (hne : (readL A.bls (bl x.src)).letters ≠ []) (v : Value) (w : World) (h : AlphAt w w.heap.size v A) :
    Calls Tryz.prog 36 #[.agg #[.string x.src, .string x.dst, .string x.nxt, .bool x.fin], .agg #[.string o.src, .string o.dst, .string o.nxt, .bool o.fin], v] w
      fun e w' => e = .returned (.bool (begB A.bls x.l o.l)) ∧ Below w.heap.size w w' := by
  have hA := h
  obtain ⟨la, lc, sa, sc, rfl, hn, hl1, hs1, hls, hl, hsm⟩ := h
  go_enter Tryz.func36, Tryz.ntmps36
  go_wp2_with fail
  generalize hW0 : (((w.alloc _).alloc _).alloc _) = W0
  have hw0 : Below w.heap.size w W0 := by rw [← hW0]; exact (((Below.refl _ _).alloc (Nat.le_refl _) _).alloc (by simp) _).alloc (by simp; omega) _
  have hbo : Box W0 (w.heap.size + 1) [Value.string o.src, .string o.dst, .string o.nxt, .bool o.fin] := by
    rw [← hW0]; have := (Box.new (w.alloc (.cells #[Value.string x.src, .string x.dst, .string x.nxt, .bool x.fin] 44)) [Value.string o.src, .string o.dst, .string o.nxt, .bool o.fin] 44)
    simp at this; exact this.alloc (by simp) _
  have hba : Box W0 (w.heap.size + 2) [Value.string A.name, .slice la A.letters.length lc, .slice sa A.small.length sc] := by
    rw [← hW0]; have := (Box.new ((w.alloc (.cells #[Value.string x.src, .string x.dst, .string x.nxt, .bool x.fin] 44)).alloc (.cells #[Value.string o.src, .string o.dst, .string o.nxt, .bool o.fin] 44)) [Value.string A.name, .slice la A.letters.length lc, .slice sa A.small.length sc] 28)
    simpa using this
  have hsz : W0.heap.size = w.heap.size + 3 := by rw [← hW0]; simp
  clear hW0
  refine (Letters10_any A hok.nodup hok.len x.src hx.1 _ _ ((hA.below hw0 (Nat.le_refl _)).more hw0.size)).mono ?_
  rintro e w1 ⟨u, rfl, hown, hb1⟩
  obtain ⟨ua, uc, rfl, _, hrow⟩ := RowAt.of_own hown
  have hb1' := hw0.trans (hb1.mono hw0.size)
  obtain ⟨o0, o1, o2, o3⟩ := (hbo.below hb1 (by omega)).c4
  obtain ⟨a0, a1, a2⟩ := (hba.below hb1 (by omega)).c3
  go_wp2_with fail
  refine (Letters10_any A hok.nodup hok.len o.nxt ho.2.2 _ _ ((hA.below hb1' (Nat.le_refl _)).more hb1'.size)).mono ?_
  rintro e w2 ⟨u2, rfl, hown2, hb2⟩
  obtain ⟨va, vc, rfl, _, hrow2⟩ := RowAt.of_own hown2
  have hb2' := hb1'.trans (hb2.mono hb1'.size)
  have hlx : 0 < (readL A.bls (bl x.src)).letters.length := by
    cases e : (readL A.bls (bl x.src)).letters with
    | nil => exact absurd e hne
    | cons => simp
  obtain ⟨g, q, rfl, hg, hc⟩ := hrow.nums hlx
  have x0 := (hb2.cell (p := ⟨g, q + 0, none⟩) hg).trans (hc 0 hlx)
  simp only [Nat.add_zero] at x0
  clear o0 o1 o2 o3 a0 a1 a2 hc
  generalize hX : (readL A.bls (bl x.src)).letters = X at *
  generalize hN : (readL A.bls (bl o.nxt)).letters = N at *
  have HX := Lib.hid hX
  have HN := Lib.hid hN
  clear hX hN
  go_wp2_with fail
  have hfl : firstLetter A.bls x.l.src = X[0] := by
    unfold firstLetter
    rw [show x.l.src = bl x.src from rfl, HX.out, List.getElem?_eq_getElem hlx]; rfl
  have Hfl := Lib.hid hfl
  clear hfl
  go_loopw [13] (fun i wr => ∃ k : Nat, k ≤ N.length ∧ i = .int .i64 k ∧ (∀ (j : Nat) c, j < k → N[j]? = some c → c ≠ X[0]) ∧ Below w2.heap.size w2 wr) (fun i _ => N.length - (intOf i).toNat)
  case atStart => exact ⟨0, Nat.zero_le _, rfl, by simp, Below.refl _ _⟩
  case round =>
    obtain ⟨k, hk, rfl, hto, hbw⟩ := hrel
    have Hto := Lib.hid hto
    clear hto
    have hwr := hb2'.trans (hbw.mono hb2'.size)
    have y0 := (hbw.cell (p := ⟨g, q, none⟩) (by have := hb2.size; simp; omega)).trans x0
    have hN24 : N.length ≤ 24 := by rw [← HN.out]; exact readL_le _ _
    by_cases hkn : k < N.length
    · obtain ⟨g', q', rfl, hg', hc'⟩ := hrow2.nums (by omega)
      have z0 := (hbw.cell (p := ⟨g', q' + k, none⟩) hg').trans (hc' k hkn)
      clear hc'
      by_cases he : N[k] = X[0]
      · have d1 : (N[k] == X[0]) = true := by simp [he]
        have He := Lib.hid he
        clear he
        go_wp2_with fail
        go_quiet (fail)
        go_wp2
        go_ret
        refine ⟨ret_bool ?_, below_drewN hwr _⟩
        unfold begB
        rw [Hfl.out, show o.l.nxt = bl o.nxt from rfl, HN.out, eq_comm, List.contains_iff_mem]
        exact He.out ▸ List.getElem_mem hkn
      · have d1 : (N[k] == X[0]) = false := by simp [he]
        have He := Lib.hid he
        clear he
        go_wp2_with fail
        go_quiet (fail)
        go_wp2
        refine ⟨⟨k + 1, by omega, by go_num, fun j c hj hc => ?_, below_drewN hbw _⟩, by simp [intOf]; omega⟩
        rcases Nat.lt_succ_iff_lt_or_eq.1 hj with hj | rfl
        · exact Hto.out j c hj hc
        · rw [List.getElem?_eq_getElem hkn] at hc
          obtain rfl := Option.some.inj hc
          exact He.out
    · go_wp2
      go_ret
      refine ⟨ret_bool ?_, hwr⟩
      unfold begB
      rw [Hfl.out, show o.l.nxt = bl o.nxt from rfl, HN.out, eq_comm, ← Bool.not_eq_true, List.contains_iff_mem]
      intro hm
      obtain ⟨j, hj, hje⟩ := List.getElem_of_mem hm
      exact Hto.out j _ (by omega) (List.getElem?_eq_getElem hj) hje

end Go.Proofs.YtielbaaaipkbdaaGreatDoor
