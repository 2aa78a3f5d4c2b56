/- Walk: the law CompileBack. -/
import Derived.Test.YtielbaaaipkbdaaGreatDoorGN
import Derived.Test.YtielbaaaipkbdaaGreatDoorN8
import Derived.Test.YtielbaaaipkbdaaGreatDoorV1
import Derived.BigQuiet
import Derived.Deep.QuietTactic
import Derived.Deep.RegionHeld3
namespace Go.Proofs.YtielbaaaipkbdaaGreatDoor
open Go.RowKit Classical

theorem tmod_at (a : Int) (n : Nat) (ha : 0 ≤ a) (hn : 0 < n) : ∃ p : Nat, p < n ∧ a.tmod (n : Int) = (p : Int) := by
  refine ⟨a.toNat % n, Nat.mod_lt _ hn, ?_⟩
  rw [Int.tmod_eq_emod_of_nonneg ha, Int.natCast_emod, Int.toNat_of_nonneg ha]
theorem runs_valid {M : Mach} {x : List UInt8} {ts : List ByteArray} (h : RunsOf M x ts 0) : ValidM M := by
  rcases h with ⟨_, _, h⟩ | ⟨h, _⟩
  · cases h
  · exact h.1
/-- Back by the inverse: a circle, too much, or the word itself. -/
theorem back_ok {M N : Mach} (hN : InvOf M N) (hM : ValidM M) {x t : ByteArray} (hr : Result M (bl x) t) (ht : t.size ≤ 400) {ts : List ByteArray} {err : Int} (h : RunsOf N (bl t) ts err) : err = 12 ∨ err = 2 ∨ (err = 0 ∧ x ∈ ts) := by
  rcases h with ⟨hn, _, _⟩ | ⟨_, ⟨_, _, h⟩ | ⟨_, ⟨_, _, h⟩ | ⟨_, h0, _, h⟩⟩⟩
  · exact absurd ⟨hN.valid hM, by rw [bl_length]; exact ht⟩ hn
  · exact .inl h
  · exact .inr (.inl h)
  · exact .inr (.inr ⟨h0, (h x).2 ((hN.result hM).2 hr)⟩)

set_option maxRecDepth 100000 in
set_option maxHeartbeats 4000000 in
theorem law4_any (R : Ruls) (A B : Alph) (x : ByteArray) (hx : x.size ≤ maxLen) (a : Int) (ha8 : 0 ≤ a ∧ a ≤ 255) (v va vb : Value) (w : World) (h : RulsAt w w.heap.size v R) (ha : AlphAt w w.heap.size va A) (hb : AlphAt w w.heap.size vb B) :
    Calls Tryz.prog 6 #[v, va, vb, .string x, .int .u8 a] w fun e w' => e = .returned (.bool true) ∧ Below w.heap.size w w' := by
  have hR := h
  have hA := ha
  have hB := hb
  obtain ⟨la, lc, rfl, -, -, -, -, -⟩ := h
  obtain ⟨fa, fc, ga, gc, rfl, -, -, -, -, -, -⟩ := ha
  obtain ⟨fa2, fc2, ga2, gc2, rfl, -, -, -, -, -, -⟩ := hb
  go_enter Tryz.func6, Tryz.ntmps6
  go_wp2_with fail
  generalize hW0 : (((w.alloc _).alloc _).alloc _) = W0
  have hw0 : Below w.heap.size w W0 := by rw [← hW0]; exact (((Below.refl _ _).alloc (Nat.le_refl _) _).alloc (by simp) _).alloc (by simp; omega) _
  have hsz : W0.heap.size = w.heap.size + 3 := by rw [← hW0]; simp
  have hbr : Box W0 w.heap.size [Value.string R.src, .string R.dst, .slice la R.list.length lc] := by
    rw [← hW0]; exact ((Box.new _ _ _).alloc (by simp) _).alloc (by simp; omega) _
  have hba : Box W0 (w.heap.size + 1) [Value.string A.name, .slice fa A.letters.length fc, .slice ga A.small.length gc] := by
    rw [← hW0]; have := (Box.new (w.alloc (.cells #[Value.string R.src, .string R.dst, .slice la R.list.length lc] 24)) [Value.string A.name, .slice fa A.letters.length fc, .slice ga A.small.length gc] 28)
    simp at this; exact this.alloc (by simp) _
  have hbb : Box W0 (w.heap.size + 2) [Value.string B.name, .slice fa2 B.letters.length fc2, .slice ga2 B.small.length gc2] := by
    rw [← hW0]; have := (Box.new ((w.alloc (.cells #[Value.string R.src, .string R.dst, .slice la R.list.length lc] 24)).alloc (.cells #[Value.string A.name, .slice fa A.letters.length fc, .slice ga A.small.length gc] 28)) [Value.string B.name, .slice fa2 B.letters.length fc2, .slice ga2 B.small.length gc2] 28)
    simp at this; exact this
  clear hW0
  have Hk := Lib.hid (fun wr (hbw : Below W0.heap.size W0 wr) => And.intro (hbr.below hbw (by omega)).c3 (And.intro (hba.below hbw (by omega)).c3 (hbb.below hbw (by omega)).c3))
  have Har := Lib.hid (fun wr (hbw : Below W0.heap.size W0 wr) => have hw := hw0.trans (hbw.mono hw0.size); And.intro ((hR.below hw (Nat.le_refl _)).more hw.size) (And.intro ((hA.below hw (Nat.le_refl _)).more hw.size) ((hB.below hw (Nat.le_refl _)).more hw.size)))
  have Hw0 := Lib.hid hw0
  clear hbr hba hbb hR hA hB hw0
  refine (head_ok W0).mono ?_
  rintro e w1 ⟨rfl, hb1⟩
  obtain ⟨⟨r0, r1, r2⟩, ⟨a0, a1, a2⟩, ⟨b0, b1, b2⟩⟩ := Hk.out w1 hb1
  obtain ⟨h1, h2, h3⟩ := Har.out w1 hb1
  go_wp2_with fail
  refine (Compile_prog R A B _ _ _ w1 h1 h2 h3).mono ?_
  rintro e w5 ⟨v5, M, err, rfl, hm5, hb5, hno, hok⟩
  clear r0 r1 r2 a0 a1 a2 b0 b1 b2 h1 h2 h3
  have Hm5 := Lib.hid (And.intro hm5 (And.intro hno hok))
  obtain ⟨xa, xc, ya, yc, rfl, -, -, -, -⟩ := hm5
  clear hno hok
  go_upto_region 3 with (fail)
  generalize hW6 : (w5.alloc _) = W6
  have hb6 : Below w5.heap.size w5 W6 := by rw [← hW6]; exact (Below.refl _ _).alloc (Nat.le_refl _) _
  have k6 : Blk W6 w5.heap.size #[.int .i64 M.states, .int .i64 M.start, .slice xa M.final.length xc, .slice ya M.arcs.length yc] 33 := by rw [← hW6]; exact Blk.new _ _ _
  have hm6 := (Hm5.out.1.below hb6 (Nat.le_refl _)).more hb6.size
  have hB6 := hb1.trans ((hb5.trans (hb6.mono hb5.size)).mono hb1.size)
  have Hc := Lib.hid Hm5.out.2
  clear hW6 hb6 hb5 Hm5 hb1
  obtain ⟨⟨r0, r1, r2⟩, ⟨a0, a1, a2⟩, ⟨b0, b1, b2⟩⟩ := Hk.out W6 hB6
  obtain ⟨h1, h2, h3⟩ := Har.out W6 hB6
  have H6 := Lib.hid (And.intro k6 (And.intro hm6 hB6))
  clear k6 hm6 hB6
  go_wp2_with fail
  refine (few15_any R A B x hx _ _ _ W6 h1 h2 h3).mono ?_
  rintro e w7 ⟨rfl, hb7⟩
  clear r0 r1 r2 a0 a1 a2 b0 b1 b2 h1 h2 h3
  have H7 := Lib.hid (And.intro (H6.out.1.below hb7 H6.out.1.lt) (And.intro ((H6.out.2.1.below hb7 (Nat.le_refl _)).more hb7.size) (H6.out.2.2.trans (hb7.mono H6.out.2.2.size))))
  clear H6 hb7
  have hbF := Hw0.out.trans (H7.out.2.2.mono Hw0.out.size)
  by_cases hf : ¬ FewW R A B x
  · rw [decide_eq_false hf]
    clear hf
    go_wp2
    go_ret
    exact ⟨rfl, hbF⟩
  have hx16 := (Classical.not_not.1 hf).2
  rw [decide_eq_true (Classical.not_not.1 hf)]
  clear hf
  by_cases hv : Valid11 R A B
  case neg =>
    obtain ⟨rfl, -⟩ := Hc.out.1 hv
    clear hv
    go_wp2
    go_ret
    exact ⟨rfl, hbF⟩
  obtain ⟨rfl, hcM⟩ := Hc.out.2 hv
  have Hsize := Lib.hid (fun (t : ByteArray) (hr : Result M (bl x) t) => (show t.size ≤ 400 from by
    have := compiled_size hcM hv.1.2.2.2.2.1 hr
    rw [bl_length] at this
    omega))
  clear Hc hcM hv hbF
  go_upto_region 5 with (fail)
  have k7 := H7.out.1
  have m0 : w7.cell? ⟨w5.heap.size, 0, none⟩ = some (.int .i64 M.states) := k7.cell 0
  have m1 : w7.cell? ⟨w5.heap.size, 1, none⟩ = some (.int .i64 M.start) := k7.cell 1
  have m2 : w7.cell? ⟨w5.heap.size, 2, none⟩ = some (.slice xa M.final.length xc) := k7.cell 2
  have m3 : w7.cell? ⟨w5.heap.size, 3, none⟩ = some (.slice ya M.arcs.length yc) := k7.cell 3
  clear k7
  go_wp2_with fail
  refine (Runs_any M _ x hx w7 H7.out.2.1).mono ?_
  clear m0 m1 m2 m3
  rintro e w9 ⟨v9, xs, g, rfl, ⟨a9, c9', rfl, hrow9⟩, hb9, hro9⟩
  have H9 := Lib.hid (And.intro hrow9 (And.intro hro9 (And.intro (H7.out.1.below hb9 H7.out.1.lt) (And.intro ((H7.out.2.1.below hb9 (Nat.le_refl _)).more hb9.size) (H7.out.2.2.trans (hb9.mono H7.out.2.2.size))))))
  clear hrow9 hro9 hb9 H7
  have hbF := Hw0.out.trans (H9.out.2.2.2.2.mono Hw0.out.size)
  by_cases hg : g = 0
  case neg =>
    have d1 : (g != 0) = true := by simp [hg]
    go_wp2
    go_ret
    exact ⟨rfl, hbF⟩
  subst hg
  by_cases hl1 : xs.length = 0
  · have d1 : decide ((xs.length : Int) = 0) = true := by simp [hl1]
    have d2 : ((xs.length : Int) == 0) = true := by simp [hl1]
    clear hl1
    go_wp2
    go_ret
    exact ⟨rfl, hbF⟩
  have e1 : decide ((xs.length : Int) = 0) = false := by rw [decide_eq_false_iff_not]; omega
  have e2 : ((xs.length : Int) == 0) = false := by rw [beq_eq_false_iff_ne]; omega
  have hMv := runs_valid H9.out.2.1
  have HMv := Lib.hid hMv
  have Hl1 := Lib.hid hl1
  clear hMv hl1 hbF
  go_upto_region 8 with (fail)
  have k9 := H9.out.2.2.1
  have m0 : w9.cell? ⟨w5.heap.size, 0, none⟩ = some (.int .i64 M.states) := k9.cell 0
  have m1 : w9.cell? ⟨w5.heap.size, 1, none⟩ = some (.int .i64 M.start) := k9.cell 1
  have m2 : w9.cell? ⟨w5.heap.size, 2, none⟩ = some (.slice xa M.final.length xc) := k9.cell 2
  have m3 : w9.cell? ⟨w5.heap.size, 3, none⟩ = some (.slice ya M.arcs.length yc) := k9.cell 3
  clear k9 e1 e2
  go_wp2_with fail
  refine (Invert_any M _ w9 H9.out.2.2.2.1).mono ?_
  clear m0 m1 m2 m3
  rintro e wA ⟨vA, N, err, rfl, hmA, hbA, -, hokA⟩
  obtain ⟨rfl, hinv⟩ := hokA HMv.out
  have HmA := Lib.hid (And.intro hmA hinv)
  obtain ⟨xa7, xc7, ya7, yc7, rfl, -, -, -, -⟩ := hmA
  clear hokA hinv
  go_upto_region 9 with (fail)
  generalize hW8 : (wA.alloc _) = W8
  have hb8 : Below wA.heap.size wA W8 := by rw [← hW8]; exact (Below.refl _ _).alloc (Nat.le_refl _) _
  have k8 : Blk W8 wA.heap.size #[.int .i64 N.states, .int .i64 N.start, .slice xa7 N.final.length xc7, .slice ya7 N.arcs.length yc7] 33 := by rw [← hW8]; exact Blk.new _ _ _
  have hm8 := (HmA.out.1.below hb8 (Nat.le_refl _)).more hb8.size
  have hb98 := hbA.trans (hb8.mono hbA.size)
  have hrow8 := (H9.out.1.below hb98 (Nat.le_refl _)).more hb98.size
  have H8 := Lib.hid (And.intro hrow8 (And.intro H9.out.2.1 (And.intro HmA.out.2 (And.intro hm8 (H9.out.2.2.2.2.trans (hb98.mono H9.out.2.2.2.2.size))))))
  have m0 : W8.cell? ⟨wA.heap.size, 0, none⟩ = some (.int .i64 N.states) := k8.cell 0
  have m1 : W8.cell? ⟨wA.heap.size, 1, none⟩ = some (.int .i64 N.start) := k8.cell 1
  have m2 : W8.cell? ⟨wA.heap.size, 2, none⟩ = some (.slice xa7 N.final.length xc7) := k8.cell 2
  have m3 : W8.cell? ⟨wA.heap.size, 3, none⟩ = some (.slice ya7 N.arcs.length yc7) := k8.cell 3
  have hlt8 := k8.lt
  have hxs := runs_len H9.out.2.1
  clear hW8 hb8 k8 hm8 hb98 hrow8 HmA H9 hbA
  obtain ⟨p, hp, hr1⟩ := tmod_at a xs.length ha8.1 (by have := Hl1.out; omega)
  have wa : IntKind.i64.wrap a = a := by simp [IntKind.wrap, IntKind.bits, IntKind.signed]; omega
  obtain ⟨gx, ox, rfl, hgx, hcx⟩ := H8.out.1.strs (by omega)
  have x0 := hcx p hp
  have hres := (runs_ok H8.out.2.1).1 (List.getElem_mem hp)
  have hsz2 := Hsize.out _ hres
  have Hback := Lib.hid (fun (ts : List ByteArray) (err : Int) (h : RunsOf N (bl xs[p]) ts err) => back_ok H8.out.2.2.1 HMv.out hres hsz2 h)
  have HQ := Lib.hid (Runs_any N _ xs[p] (by unfold maxLen; omega) W8.drew H8.out.2.2.2.1)
  have n1 : ¬ xs = [] := by intro e; apply Hl1.out; rw [e]; rfl
  have n3 : ¬ xs.length = 0 := Hl1.out
  have n5 : ¬ (xs.length : Int) = 0 := by omega
  clear hcx hres hsz2 Hsize
  have hbF8 := Hw0.out.trans (H8.out.2.2.2.2.mono Hw0.out.size)
  go_region_held3 (fun w' => w'.cell? ⟨wA.heap.size, 0, none⟩ = some (.int .i64 N.states) ∧ w'.cell? ⟨wA.heap.size, 1, none⟩ = some (.int .i64 N.start) ∧ w'.cell? ⟨wA.heap.size, 2, none⟩ = some (.slice xa7 N.final.length xc7) ∧ w'.cell? ⟨wA.heap.size, 3, none⟩ = some (.slice ya7 N.arcs.length yc7) ∧ w'.cell? ⟨gx, ox + p, none⟩ = some (.string xs[p]))
    (first | exact ⟨m0, m1, m2, m3, x0⟩ | exact ⟨y0, y1, y2, y3, z0⟩ | go_keep)
    (first | (go_at_call 16; refine HQ.out.mono ?_; rintro e wB ⟨vB, ys, err, rfl, ⟨aB, cB, rfl, hrowB⟩, hbB, hroB⟩; have y0 := (hbB.cell (p := ⟨wA.heap.size, 0, none⟩) hlt8).trans m0; have y1 := (hbB.cell (p := ⟨wA.heap.size, 1, none⟩) hlt8).trans m1; have y2 := (hbB.cell (p := ⟨wA.heap.size, 2, none⟩) hlt8).trans m2; have y3 := (hbB.cell (p := ⟨wA.heap.size, 3, none⟩) hlt8).trans m3; have z0 := (hbB.cell (p := ⟨gx, ox + p, none⟩) hgx).trans x0))
  all_goals (
    have hbF := hbF8.drew.trans (hbB.mono hbF8.size)
    have hlen := runs_len hroB
    have hback := Hback.out _ _ hroB
    have Hrow := Lib.hid hrowB
    clear m0 m1 m2 m3 x0 y0 y1 y2 y3 z0 hroB hrowB hbB
    rcases hback with rfl | rfl | ⟨rfl, hin⟩
    · go_wp2
      go_ret
      exact ⟨rfl, hbF⟩
    · go_wp2
      go_ret
      exact ⟨rfl, hbF⟩
    · have hq := has_any ys aB cB x (by unfold maxLen; omega) wB Hrow.out
      rw [decide_eq_true hin] at hq
      have Hq := Lib.hid hq
      clear hq hin
      go_wp2_with (go_at_call 17; refine Hq.out.mono ?_; rintro e wC ⟨rfl, hbC⟩)
      go_ret
      exact ⟨rfl, hbF.trans (hbC.mono hbF.size)⟩)
end Go.Proofs.YtielbaaaipkbdaaGreatDoor
