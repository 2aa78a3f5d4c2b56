/- Walks: few and has, of the laws on compiled rules. -/
import Derived.Test.YtielbaaaipkbdaaGreatDoorF1
import Derived.Test.YtielbaaaipkbdaaGreatDoorGX
namespace Go.Proofs.YtielbaaaipkbdaaGreatDoor
open Go.RowKit Classical

/-- Few rules, and a short word. -/
def FewW (R : Ruls) (A B : Alph) (x : ByteArray) : Prop := Few13 R A B 8 ∧ x.size ≤ 16

set_option maxRecDepth 100000 in
set_option maxHeartbeats 2000000 in
theorem few15_any (R : Ruls) (A B : Alph) (x : ByteArray) (hx : x.size ≤ maxLen) (v va vb : Value) (w : World) (h : RulsAt w w.heap.size v R) (ha : AlphAt w w.heap.size va A) (hb : AlphAt w w.heap.size vb B) :
    Calls Tryz.prog 15 #[v, va, vb, .string x] w fun e w' => e = .returned (.bool (decide (FewW R A B x))) ∧ Below w.heap.size w w' := by
  unfold maxLen at hx
  have hR := h
  have hA := ha
  have hB := hb
  obtain ⟨la, lc, rfl, hs1, hs2, hln, hlr, hl⟩ := h
  obtain ⟨fa, fc, ga, gc, rfl, hn, hl1, hs3, hls, hfl, hfs⟩ := ha
  obtain ⟨fa2, fc2, ga2, gc2, rfl, hn2, hl2, hs4, hls2, hfl2, hfs2⟩ := hb
  go_enter Tryz.func15, Tryz.ntmps15
  go_wp2_with fail
  generalize hW0 : (((w.alloc _).alloc _).alloc _) = W0
  have hw0 : Below w.heap.size w W0 := by rw [← hW0]; exact (((Below.refl _ _).alloc (Nat.le_refl _) _).alloc (by simp) _).alloc (by simp; omega) _
  clear hW0 hs1 hs2 hln hlr hl hn hl1 hs3 hls hfl hfs hn2 hl2 hs4 hls2 hfl2 hfs2
  have h1 := (hR.below hw0 (Nat.le_refl _)).more hw0.size
  have h2 := (hA.below hw0 (Nat.le_refl _)).more hw0.size
  have h3 := (hB.below hw0 (Nat.le_refl _)).more hw0.size
  refine (few13_any R A B 8 _ _ _ W0 h1 h2 h3).mono ?_
  rintro e w1 ⟨rfl, hb1⟩
  have hbF := hw0.trans (hb1.mono hw0.size)
  clear h1 h2 h3 hR hA hB hw0 hb1
  by_cases hf : Few13 R A B 8
  · rw [decide_eq_true hf]
    have Hf := Lib.hid hf
    clear hf
    by_cases hs : x.size ≤ 16
    · have d : decide ((x.size : Int) ≤ 16) = true := by simp; omega
      have Hs := Lib.hid hs
      clear hs
      go_wp2
      go_ret
      exact ⟨ret_yes ⟨Hf.out, Hs.out⟩, hbF⟩
    · have d : decide ((x.size : Int) ≤ 16) = false := by simp; omega
      have Hs := Lib.hid hs
      clear hs
      go_wp2
      go_ret
      exact ⟨ret_no fun h => Hs.out h.2, hbF⟩
  · rw [decide_eq_false hf]
    have Hf := Lib.hid hf
    clear hf
    go_wp2
    go_ret
    exact ⟨ret_no fun h => Hf.out h.1, hbF⟩

set_option maxRecDepth 100000 in
set_option maxHeartbeats 1000000 in
theorem has_any (l : List ByteArray) (aa : Option Addr) (ac : Nat) (s : ByteArray) (hal : l.length ≤ maxLen) (w : World) (ha : RowAt w w.heap.size aa (strs l)) :
    Calls Tryz.prog 17 #[.slice aa l.length ac, .string s] w fun e w' => e = .returned (.bool (decide (s ∈ l))) ∧ Below w.heap.size w w' := by
  unfold maxLen at hal
  go_enter Tryz.func17, Tryz.ntmps17
  go_wp2_with fail
  go_loopw [5] (fun i wr => ∃ k : Nat, k ≤ l.length ∧ i = .int .i64 k ∧ (∀ j, j < k → l[j]? ≠ some s) ∧ Below w.heap.size w wr) (fun i _ => l.length - (intOf i).toNat)
  case atStart => exact ⟨0, Nat.zero_le _, rfl, by simp, Below.refl _ _⟩
  case round =>
    obtain ⟨k, hk, rfl, hto, hbw⟩ := hrel
    have Hto := Lib.hid hto
    clear hto
    by_cases hka : k < l.length
    · obtain ⟨g, o, rfl, hg, hc⟩ := ha.strs (by omega)
      have x0 := (hbw.cell (p := ⟨g, o + k, none⟩) hg).trans (hc k hka)
      clear hc
      by_cases he : l[k] = s
      · have d2 : (l[k].toList == s.toList) = true := by rw [he]; simp
        have He := Lib.hid he
        clear he
        go_wp2
        go_ret
        exact ⟨ret_yes (by rw [← He.out]; exact List.getElem_mem hka), hbw⟩
      · have d2 : (l[k].toList == s.toList) = false := by
          rw [ByteArray.toList_eq, ByteArray.toList_eq, beq_eq_false_iff_ne]; exact fun e => he (bl_inj e)
        have He := Lib.hid he
        clear he
        go_wp2
        refine ⟨⟨k + 1, by omega, by go_num, fun j hj => ?_, hbw⟩, by simp [intOf]; omega⟩
        rcases Nat.lt_or_ge j k with h | h
        · exact Hto.out j h
        · have : j = k := by omega
          subst this
          rw [List.getElem?_eq_getElem hka]
          exact fun e => He.out (Option.some.inj e)
    · go_wp2
      go_ret
      refine ⟨ret_no fun hm => ?_, hbw⟩
      obtain ⟨j, hj⟩ := List.mem_iff_getElem?.1 hm
      exact Hto.out j (by have := (List.getElem?_eq_some_iff.1 hj).1; omega) hj
end Go.Proofs.YtielbaaaipkbdaaGreatDoor
