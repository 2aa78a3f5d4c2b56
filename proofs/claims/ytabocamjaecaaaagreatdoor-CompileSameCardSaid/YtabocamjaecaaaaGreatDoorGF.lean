/- F1 · LW -/
import Derived.Test.YtabocamjaecaaaaGreatDoorW13b
import Derived.Test.YtabocamjaecaaaaGreatDoorC6
/- Walk: what the law asks of its rules (gazetteerref13.Few). -/
namespace Go.Proofs.YtabocamjaecaaaaGreatDoor
open Go.RowKit Classical

def Few13 (R : Ruls) (A B : Alph) (m : Int) : Prop :=
 (∀ (i : Nat) r, (i : Int) < m → R.list[i]? = some r → r.src.size ≤ 40 ∧ r.dst.size ≤ 40 ∧ r.nxt.size ≤ 40) ∧ (R.list.length : Int) ≤ m ∧ R.src.size ≤ 100 ∧ R.dst.size ≤ 100 ∧ Few10 A ∧ Few10 B

set_option maxRecDepth 100000 in
set_option maxHeartbeats 2000000 in
theorem few13_any (R : Ruls) (A B : Alph) (m : Int) (v va vb : Value) (w : World) (h : RulsAt w w.heap.size v R) (ha : AlphAt w w.heap.size va A) (hb : AlphAt w w.heap.size vb B) :
  Calls Tryz.prog 24 #[v, va, vb, .int .i64 m] w fun e w' => e = .returned (.bool (decide (Few13 R A B m))) ∧ Below w.heap.size w w' := by
 have hA := ha
 have hB := hb
 obtain ⟨la, lc, rfl, hs1, hs2, hln, hlr, hl⟩ := h
 obtain ⟨fa, fc, ga, gc, rfl, hn, hl1, hs3, hls, hfl, hfs⟩ := ha
 obtain ⟨fa2, fc2, ga2, gc2, rfl, hn2, hl2, hs4, hls2, hfl2, hfs2⟩ := hb
 unfold maxLen at hln hs1 hs2
 go_enter Tryz.func24, Tryz.ntmps24
 go_wp2_with fail
 generalize hW0 : (((w.alloc _).alloc _).alloc _) = W0
 have hw0 : Below w.heap.size w W0 := by rw [← hW0]; exact (((Below.refl _ _).alloc (Nat.le_refl _) _).alloc (by simp) _).alloc (by simp; omega) _
 have hsz : W0.heap.size = w.heap.size + 3 := by rw [← hW0]; simp
 have hbr : Box W0 w.heap.size [Value.string R.src, .string R.dst, .slice la R.list.length lc] := by
  rw [← hW0]; exact ((Box.new _ _ _).alloc (by simp) _).alloc (by simp; omega) _
 have hba : Box W0 (w.heap.size + 1) [Value.string A.name, .slice fa A.letters.length fc, .slice ga A.small.length gc] := by
  rw [← hW0]; have := (Box.new (w.alloc (.cells #[Value.string R.src, .string R.dst, .slice la R.list.length lc] 24)) [Value.string A.name, .slice fa A.letters.length fc, .slice ga A.small.length gc] 28)
  simp at this; exact this.alloc (by simp) _
 have hbb : Box W0 (w.heap.size + 2) [Value.string B.name, .slice fa2 B.letters.length fc2, .slice ga2 B.small.length gc2] := by
  rw [← hW0]; have := (Box.new ((w.alloc (.cells #[Value.string R.src, .string R.dst, .slice la R.list.length lc] 24)).alloc (.cells #[Value.string A.name, .slice fa A.letters.length fc, .slice ga A.small.length gc] 28)) [Value.string B.name, .slice fa2 B.letters.length fc2, .slice ga2 B.small.length gc2] 28)
  simp at this; exact this
 clear hW0
 obtain ⟨r0, r1, r2⟩ := hbr.c3
 have HBa := Lib.hid (And.intro hba hbb)
 clear hba hbb hbr
 go_loop [9] (fun i => ∃ k : Nat, k ≤ R.list.length ∧ ((k : Int) ≤ m ∨ k = 0) ∧ i = .int .i64 k ∧ (∀ (i : Nat) r, i < k → R.list[i]? = some r → r.src.size ≤ 40 ∧ r.dst.size ≤ 40 ∧ r.nxt.size ≤ 40)) (fun i => R.list.length - (intOf i).toNat)
 case atStart => exact ⟨0, Nat.zero_le _, .inr rfl, rfl, by simp⟩
 case round =>
  obtain ⟨k, hk, hkm, rfl, hall⟩ := hrel
  have H := Lib.hid hall
  clear hall
  by_cases hlt : k < R.list.length ∧ (k : Int) < m
  ·obtain ⟨hlt, hm⟩ := hlt
   obtain ⟨b, off, rfl, hb, hc⟩ := hl.ruls (by omega)
   have k0 := (hw0.cell (p := ⟨b, off + k * 4, none⟩) hb).trans (hc k hlt).1
   have k1 := (hw0.cell (p := ⟨b, off + k * 4 + 1, none⟩) hb).trans (hc k hlt).2.1
   have k2 := (hw0.cell (p := ⟨b, off + k * 4 + 2, none⟩) hb).trans (hc k hlt).2.2.1
   clear hc hl
   have hnoF : Hid (¬ (R.list[k].src.size ≤ 40 ∧ R.list[k].dst.size ≤ 40 ∧ R.list[k].nxt.size ≤ 40) → ¬ Few13 R A B m) := fun hno hf => hno (hf.1 k _ hm (List.getElem?_eq_getElem hlt))
   have hnext : Hid ((R.list[k].src.size ≤ 40 ∧ R.list[k].dst.size ≤ 40 ∧ R.list[k].nxt.size ≤ 40) → ∀ (i : Nat) r, i < k + 1 → R.list[i]? = some r → r.src.size ≤ 40 ∧ r.dst.size ≤ 40 ∧ r.nxt.size ≤ 40) := fun hy i r hi hr => by
    rcases Nat.lt_succ_iff_lt_or_eq.1 hi with h | rfl
    ·exact H.out i r h hr
    ·rw [List.getElem?_eq_getElem hlt] at hr; obtain rfl := Option.some.inj hr; exact hy
   obtain ⟨x, hx⟩ : ∃ x, x = R.list[k] := ⟨_, rfl⟩
   rw [← hx] at k0 k1 k2 hnoF hnext
   clear hx
   by_cases hy : x.src.size ≤ 40 ∧ x.dst.size ≤ 40 ∧ x.nxt.size ≤ 40
   ·have Hy := Lib.hid (hnext.out hy)
    obtain ⟨y1, y2, y3⟩ := hy
    go_wp2
    exact ⟨⟨k + 1, by omega, by omega, by go_num, Hy.out⟩, by simp [intOf]; omega⟩
   ·have Hy := Lib.hid (hnoF.out hy)
    have Hny := Lib.hid hy
    clear hy hnext hnoF
    go_wp2
    all_goals first
     | (go_ret; exact ⟨ret_no Hy.out, hw0⟩)
     | (exfalso; have := Hny.out; omega)
  ·by_cases hc : (R.list.length : Int) ≤ m ∧ R.src.size ≤ 100 ∧ R.dst.size ≤ 100
   ·obtain ⟨hc1, hc2, hc3⟩ := hc
    have hkl : k = R.list.length := by omega
    have Hall : Hid (∀ (i : Nat) r, (i : Int) < m → R.list[i]? = some r → r.src.size ≤ 40 ∧ r.dst.size ≤ 40 ∧ r.nxt.size ≤ 40) := fun i r _ hr => H.out i r (by have := (List.getElem?_eq_some_iff.1 hr).1; omega) hr
    have q1 := few10_any _ A W0 ((hA.below hw0 (Nat.le_refl _)).more hw0.size)
    obtain ⟨a0, a1, a2⟩ := HBa.out.1.c3
    clear hkl
    by_cases hfa : Few10 A
    ·rw [decide_eq_true hfa] at q1
     have Hfa := Lib.hid hfa
     have Q1 := Lib.hid q1
     clear hfa q1
     go_wp2_with fail
     refine Q1.out.mono ?_
     rintro e w5 ⟨rfl, hb5⟩
     obtain ⟨b0, b1, b2⟩ := (HBa.out.2.below hb5 (by omega)).c3
     have hw5 := hw0.trans (hb5.mono hw0.size)
     have q2 := few10_any _ B w5 ((hB.below hw5 (Nat.le_refl _)).more hw5.size)
     have Q2 := Lib.hid q2
     clear q2 a0 a1 a2 r0 r1 r2
     go_wp2_with fail
     refine Q2.out.mono ?_
     rintro e w6 ⟨rfl, hb6⟩
     have Hd := Lib.hid (show decide (Few10 B) = true ↔ Few13 R A B m from by
      rw [decide_eq_true_iff, Few13]
      exact ⟨fun h => ⟨Hall.out, hc1, hc2, hc3, Hfa.out, h⟩, fun h => h.2.2.2.2.2⟩)
     go_wp2
     go_ret
     exact ⟨ret_dec Hd.out, hw5.trans (hb6.mono hw5.size)⟩
    ·rw [decide_eq_false hfa] at q1
     have Hfa := Lib.hid hfa
     have Q1 := Lib.hid q1
     clear hfa q1
     go_wp2_with fail
     refine Q1.out.mono ?_
     rintro e w5 ⟨rfl, hb5⟩
     have hw5 := hw0.trans (hb5.mono hw0.size)
     clear a0 a1 a2 r0 r1 r2
     go_wp2
     go_ret
     exact ⟨ret_no (fun hf => Hfa.out hf.2.2.2.2.1), hw5⟩
   ·have Hc := Lib.hid hc
    have Hno := Lib.hid (show ¬ Few13 R A B m from fun hf => hc ⟨hf.2.1, hf.2.2.1, hf.2.2.2.1⟩)
    clear hc
    obtain ⟨a0, a1, a2⟩ := HBa.out.1.c3
    go_wp2
    all_goals first
     | (go_ret; exact ⟨ret_no Hno.out, hw0⟩)
     | (exfalso; have := Hc.out; omega)
end Go.Proofs.YtabocamjaecaaaaGreatDoor

/- Walk: the law CompileMatchesReference, over what its head answers. -/
namespace Go.Proofs.YtabocamjaecaaaaGreatDoor
open Go.RowKit Classical

/-- What the law's head answers. -/
def HeadOk : Prop := ∀ w : World, Calls Tryz.prog 5 #[] w fun e w' => e = .returned (.bool true) ∧ Below w.heap.size w w'

end Go.Proofs.YtabocamjaecaaaaGreatDoor
