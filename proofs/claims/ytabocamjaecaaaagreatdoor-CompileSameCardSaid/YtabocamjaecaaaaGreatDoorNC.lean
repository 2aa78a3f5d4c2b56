/- Walk: the law CompileSame. -/
import Derived.Test.YtabocamjaecaaaaGreatDoorGN
import Derived.Test.YtabocamjaecaaaaGreatDoorSW
import Derived.Test.YtabocamjaecaaaaGreatDoorS4
import Derived.BigQuiet
import Derived.Deep.QuietTactic
import Derived.Deep.RegionHeld3
namespace Go.Proofs.YtabocamjaecaaaaGreatDoor
open Go.RowKit Classical

set_option maxRecDepth 100000 in
set_option maxHeartbeats 4000000 in
theorem law11_any (R : Ruls) (A B : Alph) (x : ByteArray) (hx : x.size ≤ maxLen) (v va vb : Value) (w : World) (h : RulsAt w w.heap.size v R) (ha : AlphAt w w.heap.size va A) (hb : AlphAt w w.heap.size vb B) :
  Calls Tryz.prog 4 #[v, va, vb, .string x] w fun e w' => e = .returned (.bool true) ∧ Below w.heap.size w w' := by
 have hR := h
 have hA := ha
 have hB := hb
 obtain ⟨la, lc, rfl, -, -, -, -, -⟩ := h
 obtain ⟨fa, fc, ga, gc, rfl, -, -, -, -, -, -⟩ := ha
 obtain ⟨fa2, fc2, ga2, gc2, rfl, -, -, -, -, -, -⟩ := hb
 go_enter Tryz.func4, Tryz.ntmps4
 go_wp2_with fail
 generalize hW0 : (((w.alloc _).alloc _).alloc _) = W0
 have hw0 : Below w.heap.size w W0 := by rw [← hW0]; exact (((Below.refl _ _).alloc (Nat.le_refl _) _).alloc (by simp) _).alloc (by simp; omega) _
 have hsz : W0.heap.size = w.heap.size + 3 := by rw [← hW0]; simp
 have hbr : Box W0 w.heap.size [Value.string R.src, .string R.dst, .slice la R.list.length lc] := by
  rw [← hW0]; exact ((Box.new _ _ _).alloc (by simp) _).alloc (by simp; omega) _
 have hba : Box W0 (w.heap.size + 1) [Value.string A.name, .slice fa A.letters.length fc, .slice ga A.small.length gc] := by
  rw [← hW0]; have := (Box.new (w.alloc (.cells #[Value.string R.src, .string R.dst, .slice la R.list.length lc] 24)) [Value.string A.name, .slice fa A.letters.length fc, .slice ga A.small.length gc] 28)
  simp at this; exact this.alloc (by simp) _
 have hbb : Box W0 (w.heap.size + 2) [Value.string B.name, .slice fa2 B.letters.length fc2, .slice ga2 B.small.length gc2] := by
  rw [← hW0]; have := (Box.new ((w.alloc (.cells #[Value.string R.src, .string R.dst, .slice la R.list.length lc] 24)).alloc (.cells #[Value.string A.name, .slice fa A.letters.length fc, .slice ga A.small.length gc] 28)) [Value.string B.name, .slice fa2 B.letters.length fc2, .slice ga2 B.small.length gc2] 28)
  simp at this; exact this
 clear hW0
 have Hk := Lib.hid (fun wr (hbw : Below W0.heap.size W0 wr) => And.intro (hbr.below hbw (by omega)).c3 (And.intro (hba.below hbw (by omega)).c3 (hbb.below hbw (by omega)).c3))
 have Har := Lib.hid (fun wr (hbw : Below W0.heap.size W0 wr) => have hw := hw0.trans (hbw.mono hw0.size); And.intro ((hR.below hw (Nat.le_refl _)).more hw.size) (And.intro ((hA.below hw (Nat.le_refl _)).more hw.size) ((hB.below hw (Nat.le_refl _)).more hw.size)))
 have Hw0 := Lib.hid hw0
 clear hbr hba hbb hR hA hB hw0
 refine (head_ok W0).mono ?_
 rintro e w1 ⟨rfl, hb1⟩
 obtain ⟨⟨r0, r1, r2⟩, ⟨a0, a1, a2⟩, ⟨b0, b1, b2⟩⟩ := Hk.out w1 hb1
 obtain ⟨h1, h2, h3⟩ := Har.out w1 hb1
 go_wp2_with fail
 refine (few15_any R A B x hx _ _ _ w1 h1 h2 h3).mono ?_
 rintro e w2 ⟨rfl, hb2⟩
 clear r0 r1 r2 a0 a1 a2 b0 b1 b2 h1 h2 h3
 have hb02 := hb1.trans (hb2.mono hb1.size)
 have hbF := Hw0.out.trans (hb02.mono Hw0.out.size)
 by_cases hf : ¬ FewW R A B x
 ·rw [decide_eq_false hf]
  clear hf
  go_wp2
  go_ret
  exact ⟨rfl, hbF⟩
 have hx16 := (Classical.not_not.1 hf).2
 rw [decide_eq_true (Classical.not_not.1 hf)]
 clear hf hbF
 obtain ⟨⟨r0, r1, r2⟩, ⟨a0, a1, a2⟩, ⟨b0, b1, b2⟩⟩ := Hk.out w2 hb02
 obtain ⟨h1, h2, h3⟩ := Har.out w2 hb02
 go_wp2_with fail
 refine (Compile_prog R A B _ _ _ w2 h1 h2 h3).mono ?_
 rintro e w5 ⟨v5, M, err, rfl, hm5, hb5, hno, hok⟩
 clear r0 r1 r2 a0 a1 a2 b0 b1 b2 h1 h2 h3
 have Hm5 := Lib.hid (And.intro hm5 (And.intro hno hok))
 obtain ⟨xa, xc, ya, yc, rfl, -, -, -, -⟩ := hm5
 clear hno hok
 go_upto_region 5 with (fail)
 generalize hW6 : (w5.alloc _) = W6
 have hb6 : Below w5.heap.size w5 W6 := by rw [← hW6]; exact (Below.refl _ _).alloc (Nat.le_refl _) _
 have k6 : Blk W6 w5.heap.size #[.int .i64 M.states, .int .i64 M.start, .slice xa M.final.length xc, .slice ya M.arcs.length yc] 32 := by rw [← hW6]; exact Blk.new _ _ _
 have hm6 := (Hm5.out.1.below hb6 (Nat.le_refl _)).more hb6.size
 have hB6 := hb02.trans ((hb5.trans (hb6.mono hb5.size)).mono hb02.size)
 have Hc := Lib.hid Hm5.out.2
 clear hW6 hb6 hb5 Hm5 hb02 hb1 hb2
 obtain ⟨⟨r0, r1, r2⟩, ⟨a0, a1, a2⟩, ⟨b0, b1, b2⟩⟩ := Hk.out W6 hB6
 obtain ⟨h1, h2, h3⟩ := Har.out W6 hB6
 have H6 := Lib.hid (And.intro k6 (And.intro hm6 hB6))
 clear k6 hm6 hB6
 go_wp2_with fail
 refine (Writings_any R A B x hx _ _ _ W6 h1 h2 h3).mono ?_
 rintro e w7 ⟨v7, xs, f, rfl, ⟨aX, cX, rfl, hrowX⟩, hb7, hwr⟩
 clear r0 r1 r2 a0 a1 a2 b0 b1 b2 h1 h2 h3
 have H7 := Lib.hid (And.intro (H6.out.1.below hb7 H6.out.1.lt) (And.intro ((H6.out.2.1.below hb7 (Nat.le_refl _)).more hb7.size) (And.intro (H6.out.2.2.trans (hb7.mono H6.out.2.2.size)) (And.intro hrowX hwr))))
 clear H6 hb7 hrowX hwr
 have hbF := Hw0.out.trans (H7.out.2.2.1.mono Hw0.out.size)
 by_cases hv : Valid11 R A B
 case neg =>
  obtain ⟨rfl, rfl⟩ := Hc.out.1 hv
  obtain rfl : f = 1 := by
   rcases H7.out.2.2.2.2 with ⟨_, _, e⟩ | ⟨e, _⟩
   ·exact e
   ·exact absurd e.1 hv
  clear hv
  have k7 := H7.out.1
  have m0 : w7.cell? ⟨w5.heap.size, 0, none⟩ = some (.int .i64 0) := k7.cell 0
  have m3 : w7.cell? ⟨w5.heap.size, 3, none⟩ = some (.slice ya 0 yc) := k7.cell 3
  clear k7
  go_wp2
  go_ret
  exact ⟨rfl, hbF⟩
 obtain ⟨rfl, hcM⟩ := Hc.out.2 hv
 have HV := Lib.hid (And.intro hcM hv)
 clear Hc hcM hv
 have k7 := H7.out.1
 have m0 : w7.cell? ⟨w5.heap.size, 0, none⟩ = some (.int .i64 M.states) := k7.cell 0
 have m1 : w7.cell? ⟨w5.heap.size, 1, none⟩ = some (.int .i64 M.start) := k7.cell 1
 have m2 : w7.cell? ⟨w5.heap.size, 2, none⟩ = some (.slice xa M.final.length xc) := k7.cell 2
 have m3 : w7.cell? ⟨w5.heap.size, 3, none⟩ = some (.slice ya M.arcs.length yc) := k7.cell 3
 clear k7 hbF
 go_wp2_with fail
 refine (Runs_any M _ x hx w7 H7.out.2.1).mono ?_
 clear m0 m1 m2 m3
 rintro e wA ⟨vA, ys, g, rfl, ⟨aA, cA, rfl, hrowA⟩, hbA, hroA⟩
 have hcase := same_run HV.out.1 HV.out.2 (by rw [bl_length]; omega) H7.out.2.2.2.2 hroA
 have hys := runs_len hroA
 have HA := Lib.hid (And.intro hrowA (And.intro ((H7.out.2.2.2.1.below hbA (Nat.le_refl _)).more hbA.size) (H7.out.2.2.1.trans (hbA.mono H7.out.2.2.1.size))))
 clear hrowA hbA hroA H7
 have hbF := Hw0.out.trans (HA.out.2.2.mono Hw0.out.size)
 rcases hcase with rfl | rfl | ⟨rfl, rfl⟩ | ⟨rfl, rfl, rfl⟩
 ·go_wp2
  go_ret
  exact ⟨rfl, hbF⟩
 ·go_wp2
  go_ret
  exact ⟨rfl, hbF⟩
 ·go_wp2
  go_ret
  exact ⟨rfl, hbF⟩
 ·have hq := Texts12_any xs xs aX aA cX cA (by unfold maxLen; omega) wA HA.out.2.1 HA.out.1
  rw [decide_eq_true rfl] at hq
  have Hq := Lib.hid hq
  clear hq
  go_wp2_with (go_at_call 13; refine Hq.out.mono ?_; rintro e wC ⟨rfl, hbC⟩)
  go_ret
  exact ⟨rfl, hbF.trans (hbC.mono hbF.size)⟩
end Go.Proofs.YtabocamjaecaaaaGreatDoor
