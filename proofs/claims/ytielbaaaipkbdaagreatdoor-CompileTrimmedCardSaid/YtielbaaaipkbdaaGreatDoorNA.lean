/- Walk: the law CompileTrimmed. -/
import Derived.Test.YtielbaaaipkbdaaGreatDoorGN
import Derived.Test.YtielbaaaipkbdaaGreatDoorN8
import Derived.Test.YtielbaaaipkbdaaGreatDoorT3
import Derived.BigQuiet
import Derived.Deep.QuietTactic
import Derived.Deep.RegionHeld3
namespace Go.Proofs.YtielbaaaipkbdaaGreatDoor
open Go.RowKit Classical

theorem numI_le {M : Mach} (hv : ValidM M) : (trimM M).states ≤ M.states := by
  show ((numK M M.states.toNat : Nat) : Int) ≤ M.states
  have := numK_le M M.states.toNat
  have := hv.one
  omega
/-- The runs of a machine without silent circles and of the trimmed one. -/
theorem trim_runs {M : Mach} (hv : ValidM M) (hc : ¬ Circle M) {x : List UInt8} (hx : x.length ≤ 400) {ts us : List ByteArray} {g h : Int} (h1 : RunsOf M x ts g) (h2 : RunsOf (trimM M) x us h) :
    (g = 2 ∧ (h = 0 ∨ h = 2)) ∨ (g = 0 ∧ h = 0 ∧ ts = us) := by
  have hvt := trim_valid hv
  have hct : ¬ Circle (trimM M) := fun e => hc (trim_circle hv e)
  rcases h1 with ⟨n, _, _⟩ | ⟨_, ⟨n, _, _⟩ | ⟨_, h1⟩⟩
  · exact absurd ⟨hv, hx⟩ n
  · exact absurd n hc
  rcases h2 with ⟨n, _, _⟩ | ⟨_, ⟨n, _, _⟩ | ⟨_, h2⟩⟩
  · exact absurd ⟨hvt, hx⟩ n
  · exact absurd n hct
  rcases h1 with ⟨n1, e1, e2⟩ | ⟨f1, e1, s1, m1⟩
  · rcases h2 with ⟨_, _, e4⟩ | ⟨_, e4, _, _⟩
    · exact .inl ⟨e2, .inr e4⟩
    · exact .inl ⟨e2, .inl e4⟩
  · rcases h2 with ⟨⟨i, hi, n2⟩, _, _⟩ | ⟨_, e4, s2, m2⟩
    · exact absurd (trim_few hv (f1 i hi)) n2
    · exact .inr ⟨e1, e4, s1.ext s2 (fun t => by rw [m1, m2]; exact (trim_result hv).symm)⟩

set_option maxRecDepth 100000 in
set_option maxHeartbeats 4000000 in
theorem law5_any (R : Ruls) (A B : Alph) (x : ByteArray) (hx : x.size ≤ maxLen) (v va vb : Value) (w : World) (h : RulsAt w w.heap.size v R) (ha : AlphAt w w.heap.size va A) (hb : AlphAt w w.heap.size vb B) :
    Calls Tryz.prog 9 #[v, va, vb, .string x] w fun e w' => e = .returned (.bool true) ∧ Below w.heap.size w w' := by
  have hR := h
  have hA := ha
  have hB := hb
  obtain ⟨la, lc, rfl, -, -, -, -, -⟩ := h
  obtain ⟨fa, fc, ga, gc, rfl, -, -, -, -, -, -⟩ := ha
  obtain ⟨fa2, fc2, ga2, gc2, rfl, -, -, -, -, -, -⟩ := hb
  go_enter Tryz.func9, Tryz.ntmps9
  go_wp2_with fail
  generalize hW0 : (((w.alloc _).alloc _).alloc _) = W0
  have hw0 : Below w.heap.size w W0 := by rw [← hW0]; exact (((Below.refl _ _).alloc (Nat.le_refl _) _).alloc (by simp) _).alloc (by simp; omega) _
  have hsz : W0.heap.size = w.heap.size + 3 := by rw [← hW0]; simp
  have hbr : Box W0 w.heap.size [Value.string R.src, .string R.dst, .slice la R.list.length lc] := by
    rw [← hW0]; exact ((Box.new _ _ _).alloc (by simp) _).alloc (by simp; omega) _
  have hba : Box W0 (w.heap.size + 1) [Value.string A.name, .slice fa A.letters.length fc, .slice ga A.small.length gc] := by
    rw [← hW0]; have := (Box.new (w.alloc (.cells #[Value.string R.src, .string R.dst, .slice la R.list.length lc] 24)) [Value.string A.name, .slice fa A.letters.length fc, .slice ga A.small.length gc] 28)
    simp at this; exact this.alloc (by simp) _
  have hbb : Box W0 (w.heap.size + 2) [Value.string B.name, .slice fa2 B.letters.length fc2, .slice ga2 B.small.length gc2] := by
    rw [← hW0]; have := (Box.new ((w.alloc (.cells #[Value.string R.src, .string R.dst, .slice la R.list.length lc] 24)).alloc (.cells #[Value.string A.name, .slice fa A.letters.length fc, .slice ga A.small.length gc] 28)) [Value.string B.name, .slice fa2 B.letters.length fc2, .slice ga2 B.small.length gc2] 28)
    simp at this; exact this
  clear hW0
  have Hk := Lib.hid (fun wr (hbw : Below W0.heap.size W0 wr) => And.intro (hbr.below hbw (by omega)).c3 (And.intro (hba.below hbw (by omega)).c3 (hbb.below hbw (by omega)).c3))
  have Har := Lib.hid (fun wr (hbw : Below W0.heap.size W0 wr) => have hw := hw0.trans (hbw.mono hw0.size); And.intro ((hR.below hw (Nat.le_refl _)).more hw.size) (And.intro ((hA.below hw (Nat.le_refl _)).more hw.size) ((hB.below hw (Nat.le_refl _)).more hw.size)))
  have Hw0 := Lib.hid hw0
  clear hbr hba hbb hR hA hB hw0
  refine (head_ok W0).mono ?_
  rintro e w1 ⟨rfl, hb1⟩
  obtain ⟨⟨r0, r1, r2⟩, ⟨a0, a1, a2⟩, ⟨b0, b1, b2⟩⟩ := Hk.out w1 hb1
  obtain ⟨h1, h2, h3⟩ := Har.out w1 hb1
  go_wp2_with fail
  refine (Compile_prog R A B _ _ _ w1 h1 h2 h3).mono ?_
  rintro e w5 ⟨v5, M, err, rfl, hm5, hb5, hno, hok⟩
  clear r0 r1 r2 a0 a1 a2 b0 b1 b2 h1 h2 h3
  have Hm5 := Lib.hid (And.intro hm5 (And.intro hno hok))
  obtain ⟨xa, xc, ya, yc, rfl, -, -, -, -⟩ := hm5
  clear hno hok
  go_upto_region 3 with (fail)
  generalize hW6 : (w5.alloc _) = W6
  have hb6 : Below w5.heap.size w5 W6 := by rw [← hW6]; exact (Below.refl _ _).alloc (Nat.le_refl _) _
  have k6 : Blk W6 w5.heap.size #[.int .i64 M.states, .int .i64 M.start, .slice xa M.final.length xc, .slice ya M.arcs.length yc] 33 := by rw [← hW6]; exact Blk.new _ _ _
  have hm6 := (Hm5.out.1.below hb6 (Nat.le_refl _)).more hb6.size
  have hB6 := hb1.trans ((hb5.trans (hb6.mono hb5.size)).mono hb1.size)
  have Hc := Lib.hid Hm5.out.2
  clear hW6 hb6 hb5 Hm5 hb1
  obtain ⟨⟨r0, r1, r2⟩, ⟨a0, a1, a2⟩, ⟨b0, b1, b2⟩⟩ := Hk.out W6 hB6
  obtain ⟨h1, h2, h3⟩ := Har.out W6 hB6
  have H6 := Lib.hid (And.intro k6 (And.intro hm6 hB6))
  clear k6 hm6 hB6
  go_wp2_with fail
  refine (few15_any R A B x hx _ _ _ W6 h1 h2 h3).mono ?_
  rintro e w7 ⟨rfl, hb7⟩
  clear r0 r1 r2 a0 a1 a2 b0 b1 b2 h1 h2 h3
  have H7 := Lib.hid (And.intro (H6.out.1.below hb7 H6.out.1.lt) (And.intro ((H6.out.2.1.below hb7 (Nat.le_refl _)).more hb7.size) (H6.out.2.2.trans (hb7.mono H6.out.2.2.size))))
  clear H6 hb7
  have hbF := Hw0.out.trans (H7.out.2.2.mono Hw0.out.size)
  by_cases hf : ¬ FewW R A B x
  · rw [decide_eq_false hf]
    clear hf
    go_wp2
    go_ret
    exact ⟨rfl, hbF⟩
  have hx16 := (Classical.not_not.1 hf).2
  rw [decide_eq_true (Classical.not_not.1 hf)]
  clear hf
  by_cases hv : Valid11 R A B
  case neg =>
    obtain ⟨rfl, -⟩ := Hc.out.1 hv
    clear hv
    go_wp2
    go_ret
    exact ⟨rfl, hbF⟩
  obtain ⟨rfl, hcM⟩ := Hc.out.2 hv
  have HMv := Lib.hid (And.intro (compiled_valid hcM hv.1) (compiled_plain hcM hv.1.2.2.2.2.1))
  clear Hc hcM hv hbF
  go_upto_region 5 with (fail)
  have k7 := H7.out.1
  have m0 : w7.cell? ⟨w5.heap.size, 0, none⟩ = some (.int .i64 M.states) := k7.cell 0
  have m1 : w7.cell? ⟨w5.heap.size, 1, none⟩ = some (.int .i64 M.start) := k7.cell 1
  have m2 : w7.cell? ⟨w5.heap.size, 2, none⟩ = some (.slice xa M.final.length xc) := k7.cell 2
  have m3 : w7.cell? ⟨w5.heap.size, 3, none⟩ = some (.slice ya M.arcs.length yc) := k7.cell 3
  clear k7
  go_wp2_with fail
  refine (Trim_any M _ w7 H7.out.2.1).mono ?_
  clear m0 m1 m2 m3
  rintro e w8 ⟨v8, N, err, rfl, hm8, hb8, -, hok8⟩
  obtain ⟨rfl, rfl⟩ := hok8 HMv.out.1
  have Hm8 := Lib.hid hm8
  obtain ⟨xa7, xc7, ya7, yc7, rfl, -, -, -, -⟩ := hm8
  clear hok8
  go_upto_region 6 with (fail)
  generalize hW9 : (w8.alloc _) = W9
  have hb9 : Below w8.heap.size w8 W9 := by rw [← hW9]; exact (Below.refl _ _).alloc (Nat.le_refl _) _
  have k9 : Blk W9 w8.heap.size #[.int .i64 (trimM M).states, .int .i64 (trimM M).start, .slice xa7 (trimM M).final.length xc7, .slice ya7 (trimM M).arcs.length yc7] 33 := by rw [← hW9]; exact Blk.new _ _ _
  have hm9 := (Hm8.out.below hb9 (Nat.le_refl _)).more hb9.size
  have hb79 := hb8.trans (hb9.mono hb8.size)
  have H9 := Lib.hid (And.intro (H7.out.1.below hb79 H7.out.1.lt) (And.intro ((H7.out.2.1.below hb79 (Nat.le_refl _)).more hb79.size) (And.intro k9 (And.intro hm9 (H7.out.2.2.trans (hb79.mono H7.out.2.2.size))))))
  clear hW9 hb9 k9 hm9 hb79 hb8 Hm8 H7
  have m0 : W9.cell? ⟨w5.heap.size, 0, none⟩ = some (.int .i64 M.states) := H9.out.1.cell 0
  have m1 : W9.cell? ⟨w5.heap.size, 1, none⟩ = some (.int .i64 M.start) := H9.out.1.cell 1
  have m2 : W9.cell? ⟨w5.heap.size, 2, none⟩ = some (.slice xa M.final.length xc) := H9.out.1.cell 2
  have m3 : W9.cell? ⟨w5.heap.size, 3, none⟩ = some (.slice ya M.arcs.length yc) := H9.out.1.cell 3
  go_wp2_with fail
  refine (Runs_any M _ x hx W9 H9.out.2.1).mono ?_
  clear m0 m1 m2 m3
  rintro e wA ⟨vA, xs, g, rfl, ⟨aA, cA, rfl, hrowA⟩, hbA, hroA⟩
  have HA := Lib.hid (And.intro hrowA (And.intro hroA (And.intro (H9.out.1.below hbA H9.out.1.lt) (And.intro (H9.out.2.2.1.below hbA H9.out.2.2.1.lt) (And.intro ((H9.out.2.2.2.1.below hbA (Nat.le_refl _)).more hbA.size) (H9.out.2.2.2.2.trans (hbA.mono H9.out.2.2.2.2.size)))))))
  clear hrowA hroA hbA H9
  go_upto_region 7 with (fail)
  have m0 : wA.cell? ⟨w8.heap.size, 0, none⟩ = some (.int .i64 (trimM M).states) := HA.out.2.2.2.1.cell 0
  have m1 : wA.cell? ⟨w8.heap.size, 1, none⟩ = some (.int .i64 (trimM M).start) := HA.out.2.2.2.1.cell 1
  have m2 : wA.cell? ⟨w8.heap.size, 2, none⟩ = some (.slice xa7 (trimM M).final.length xc7) := HA.out.2.2.2.1.cell 2
  have m3 : wA.cell? ⟨w8.heap.size, 3, none⟩ = some (.slice ya7 (trimM M).arcs.length yc7) := HA.out.2.2.2.1.cell 3
  go_wp2_with fail
  refine (Runs_any (trimM M) _ x hx wA HA.out.2.2.2.2.1).mono ?_
  clear m0 m1 m2 m3
  rintro e wB ⟨vB, ys, h, rfl, ⟨aB, cB, rfl, hrowB⟩, hbB, hroB⟩
  have hruns := trim_runs HMv.out.1 HMv.out.2 (by rw [bl_length]; omega) HA.out.2.1 hroB
  have hxs := runs_len HA.out.2.1
  have hle := numI_le HMv.out.1
  have HB := Lib.hid (And.intro ((HA.out.1.below hbB (Nat.le_refl _)).more hbB.size) (And.intro hrowB (HA.out.2.2.2.2.2.trans (hbB.mono HA.out.2.2.2.2.2.size))))
  have n0 : wB.cell? ⟨w8.heap.size, 0, none⟩ = some (.int .i64 (trimM M).states) := (HA.out.2.2.2.1.below hbB HA.out.2.2.2.1.lt).cell 0
  have m0 : wB.cell? ⟨w5.heap.size, 0, none⟩ = some (.int .i64 M.states) := (HA.out.2.2.1.below hbB HA.out.2.2.1.lt).cell 0
  clear hroB hrowB hbB HA
  have d1 : decide (M.states < (trimM M).states) = false := by simp; omega
  have d2 : decide ((trimM M).states > M.states) = false := by simp; omega
  have hbF := Hw0.out.trans (HB.out.2.2.mono Hw0.out.size)
  clear hle
  rcases hruns with ⟨rfl, rfl | rfl⟩ | ⟨rfl, rfl, rfl⟩
  · go_wp2
    go_ret
    exact ⟨rfl, hbF⟩
  · go_wp2
    go_ret
    exact ⟨rfl, hbF⟩
  · have hq := Texts12_any xs xs aA aB cA cB (by unfold maxLen; omega) wB HB.out.1 HB.out.2.1
    rw [decide_eq_true rfl] at hq
    have Hq := Lib.hid hq
    clear hq
    go_wp2_with (go_at_call 23; refine Hq.out.mono ?_; rintro e wC ⟨rfl, hbC⟩)
    go_ret
    exact ⟨rfl, hbF.trans (hbC.mono hbF.size)⟩
end Go.Proofs.YtielbaaaipkbdaaGreatDoor
