/- Walk: the law CompileWords. -/
import Derived.Test.YtabocamjaecaaaaGreatDoorGN
import Derived.Test.YtabocamjaecaaaaGreatDoorSW
import Derived.Test.YtabocamjaecaaaaGreatDoorS6
import Derived.BigQuiet
import Derived.Deep.QuietTactic
import Derived.Deep.RegionHeld3
namespace Go.Proofs.YtabocamjaecaaaaGreatDoor
open Go.RowKit Classical

set_option maxRecDepth 100000 in
set_option maxHeartbeats 4000000 in
theorem law10_any (R : Ruls) (A B : Alph) (x : ByteArray) (hx : x.size ≤ maxLen) (v va vb : Value) (w : World) (h : RulsAt w w.heap.size v R) (ha : AlphAt w w.heap.size va A) (hb : AlphAt w w.heap.size vb B) :
  Calls Tryz.prog 3 #[v, va, vb, .string x] w fun e w' => e = .returned (.bool true) ∧ Below w.heap.size w w' := by
 have hR := h
 have hA := ha
 have hB := hb
 obtain ⟨la, lc, rfl, -, -, -, -, -⟩ := h
 obtain ⟨fa, fc, ga, gc, rfl, -, -, -, -, -, -⟩ := ha
 obtain ⟨fa2, fc2, ga2, gc2, rfl, -, -, -, -, -, -⟩ := hb
 go_enter Tryz.func3, Tryz.ntmps3
 go_wp2_with fail
 generalize hW0 : (((w.alloc _).alloc _).alloc _) = W0
 have hw0 : Below w.heap.size w W0 := by rw [← hW0]; exact (((Below.refl _ _).alloc (Nat.le_refl _) _).alloc (by simp) _).alloc (by simp; omega) _
 have hsz : W0.heap.size = w.heap.size + 3 := by rw [← hW0]; simp
 have hbr : Box W0 w.heap.size [Value.string R.src, .string R.dst, .slice la R.list.length lc] := by
  rw [← hW0]; exact ((Box.new _ _ _).alloc (by simp) _).alloc (by simp; omega) _
 have hba : Box W0 (w.heap.size + 1) [Value.string A.name, .slice fa A.letters.length fc, .slice ga A.small.length gc] := by
  rw [← hW0]; have := (Box.new (w.alloc (.cells #[Value.string R.src, .string R.dst, .slice la R.list.length lc] 24)) [Value.string A.name, .slice fa A.letters.length fc, .slice ga A.small.length gc] 28)
  simp at this; exact this.alloc (by simp) _
 have hbb : Box W0 (w.heap.size + 2) [Value.string B.name, .slice fa2 B.letters.length fc2, .slice ga2 B.small.length gc2] := by
  rw [← hW0]; have := (Box.new ((w.alloc (.cells #[Value.string R.src, .string R.dst, .slice la R.list.length lc] 24)).alloc (.cells #[Value.string A.name, .slice fa A.letters.length fc, .slice ga A.small.length gc] 28)) [Value.string B.name, .slice fa2 B.letters.length fc2, .slice ga2 B.small.length gc2] 28)
  simp at this; exact this
 clear hW0
 have Hk := Lib.hid (fun wr (hbw : Below W0.heap.size W0 wr) => And.intro (hbr.below hbw (by omega)).c3 (And.intro (hba.below hbw (by omega)).c3 (hbb.below hbw (by omega)).c3))
 have Har := Lib.hid (fun wr (hbw : Below W0.heap.size W0 wr) => have hw := hw0.trans (hbw.mono hw0.size); And.intro ((hR.below hw (Nat.le_refl _)).more hw.size) (And.intro ((hA.below hw (Nat.le_refl _)).more hw.size) ((hB.below hw (Nat.le_refl _)).more hw.size)))
 have Hw0 := Lib.hid hw0
 clear hbr hba hbb hR hA hB hw0
 refine (head_ok W0).mono ?_
 rintro e w1 ⟨rfl, hb1⟩
 obtain ⟨⟨r0, r1, r2⟩, ⟨a0, a1, a2⟩, ⟨b0, b1, b2⟩⟩ := Hk.out w1 hb1
 obtain ⟨h1, h2, h3⟩ := Har.out w1 hb1
 go_wp2_with fail
 refine (Compile_prog R A B _ _ _ w1 h1 h2 h3).mono ?_
 rintro e w5 ⟨v5, M, err, rfl, hm5, hb5, hno, hok⟩
 clear r0 r1 r2 a0 a1 a2 b0 b1 b2 h1 h2 h3
 have Hm5 := Lib.hid (And.intro hm5 (And.intro hno hok))
 obtain ⟨xa, xc, ya, yc, rfl, -, -, -, -⟩ := hm5
 clear hno hok
 go_upto_region 3 with (fail)
 generalize hW6 : (w5.alloc _) = W6
 have hb6 : Below w5.heap.size w5 W6 := by rw [← hW6]; exact (Below.refl _ _).alloc (Nat.le_refl _) _
 have k6 : Blk W6 w5.heap.size #[.int .i64 M.states, .int .i64 M.start, .slice xa M.final.length xc, .slice ya M.arcs.length yc] 32 := by rw [← hW6]; exact Blk.new _ _ _
 have hm6 := (Hm5.out.1.below hb6 (Nat.le_refl _)).more hb6.size
 have hB6 := hb1.trans ((hb5.trans (hb6.mono hb5.size)).mono hb1.size)
 have Hc := Lib.hid Hm5.out.2
 clear hW6 hb6 hb5 Hm5 hb1
 obtain ⟨⟨r0, r1, r2⟩, ⟨a0, a1, a2⟩, ⟨b0, b1, b2⟩⟩ := Hk.out W6 hB6
 obtain ⟨h1, h2, h3⟩ := Har.out W6 hB6
 have H6 := Lib.hid (And.intro k6 (And.intro hm6 hB6))
 clear k6 hm6 hB6
 go_wp2_with fail
 refine (few15_any R A B x hx _ _ _ W6 h1 h2 h3).mono ?_
 rintro e w7 ⟨rfl, hb7⟩
 clear r0 r1 r2 a0 a1 a2 b0 b1 b2 h1 h2 h3
 have H7 := Lib.hid (And.intro (H6.out.1.below hb7 H6.out.1.lt) (And.intro ((H6.out.2.1.below hb7 (Nat.le_refl _)).more hb7.size) (H6.out.2.2.trans (hb7.mono H6.out.2.2.size))))
 clear H6 hb7
 have hbF := Hw0.out.trans (H7.out.2.2.mono Hw0.out.size)
 by_cases hf : ¬ FewW R A B x
 ·rw [decide_eq_false hf]
  clear hf
  go_wp2
  go_ret
  exact ⟨rfl, hbF⟩
 have hx16 := (Classical.not_not.1 hf).2
 rw [decide_eq_true (Classical.not_not.1 hf)]
 clear hf
 by_cases hv : Valid11 R A B
 case neg =>
  obtain ⟨rfl, -⟩ := Hc.out.1 hv
  clear hv
  go_wp2
  go_ret
  exact ⟨rfl, hbF⟩
 obtain ⟨rfl, hcM⟩ := Hc.out.2 hv
 have HV := Lib.hid (And.intro hcM hv)
 have HMv := Lib.hid (And.intro (compiled_valid hcM hv.1) (compiled_plain hcM hv.1.2.2.2.2.1))
 clear Hc hcM hv hbF
 go_upto_region 5 with (fail)
 have k7 := H7.out.1
 have m0 : w7.cell? ⟨w5.heap.size, 0, none⟩ = some (.int .i64 M.states) := k7.cell 0
 have m1 : w7.cell? ⟨w5.heap.size, 1, none⟩ = some (.int .i64 M.start) := k7.cell 1
 have m2 : w7.cell? ⟨w5.heap.size, 2, none⟩ = some (.slice xa M.final.length xc) := k7.cell 2
 have m3 : w7.cell? ⟨w5.heap.size, 3, none⟩ = some (.slice ya M.arcs.length yc) := k7.cell 3
 clear k7
 go_wp2_with fail
 refine (Runs_any M _ x hx w7 H7.out.2.1).mono ?_
 clear m0 m1 m2 m3
 rintro e wA ⟨vA, xs, f, rfl, ⟨aA, cA, rfl, hrowA⟩, hbA, hroA⟩
 have hrun := words_run HV.out.1 HV.out.2 (by rw [bl_length]; omega) hroA
 have hxs := runs_len hroA
 have Hsz := Lib.hid (fun (u : ByteArray) (hu : u ∈ xs) => words_size HV.out.1 HV.out.2 (by rw [bl_length]; omega) hroA hu)
 have HA := Lib.hid (And.intro (H7.out.1.below hbA H7.out.1.lt) (And.intro ((H7.out.2.1.below hbA (Nat.le_refl _)).more hbA.size) (And.intro (H7.out.2.2.trans (hbA.mono H7.out.2.2.size)) hrowA)))
 have Hrun := Lib.hid hrun
 clear hrowA hbA hroA H7 hrun
 go_upto_region 6 with (fail)
 have k7 := HA.out.1
 have m0 : wA.cell? ⟨w5.heap.size, 0, none⟩ = some (.int .i64 M.states) := k7.cell 0
 have m1 : wA.cell? ⟨w5.heap.size, 1, none⟩ = some (.int .i64 M.start) := k7.cell 1
 have m2 : wA.cell? ⟨w5.heap.size, 2, none⟩ = some (.slice xa M.final.length xc) := k7.cell 2
 have m3 : wA.cell? ⟨w5.heap.size, 3, none⟩ = some (.slice ya M.arcs.length yc) := k7.cell 3
 clear k7
 go_wp2_with fail
 refine (Least_any M _ wA HA.out.2.1).mono ?_
 clear m0 m1 m2 m3
 rintro e wB ⟨X, Y, z, g, rfl, hbB, -, -, hg⟩
 obtain rfl := hg HMv.out.1 HMv.out.2
 have HB := Lib.hid (And.intro (HA.out.1.below hbB HA.out.1.lt) (And.intro ((HA.out.2.1.below hbB (Nat.le_refl _)).more hbB.size) (And.intro (HA.out.2.2.1.trans (hbB.mono HA.out.2.2.1.size)) ((HA.out.2.2.2.below hbB (Nat.le_refl _)).more hbB.size))))
 clear HA hbB hg
 go_upto_region 7 with (fail)
 have k7 := HB.out.1
 have m0 : wB.cell? ⟨w5.heap.size, 0, none⟩ = some (.int .i64 M.states) := k7.cell 0
 have m1 : wB.cell? ⟨w5.heap.size, 1, none⟩ = some (.int .i64 M.start) := k7.cell 1
 have m2 : wB.cell? ⟨w5.heap.size, 2, none⟩ = some (.slice xa M.final.length xc) := k7.cell 2
 have m3 : wB.cell? ⟨w5.heap.size, 3, none⟩ = some (.slice ya M.arcs.length yc) := k7.cell 3
 clear k7
 go_wp2_with fail
 refine (MValid_any M _ wB HB.out.2.1).mono ?_
 clear m0 m1 m2 m3
 rintro e wC ⟨rfl, hbC⟩
 rw [decide_eq_true HMv.out.1]
 have HC := Lib.hid (And.intro (HB.out.1.below hbC HB.out.1.lt) (And.intro ((HB.out.2.1.below hbC (Nat.le_refl _)).more hbC.size) (And.intro (HB.out.2.2.1.trans (hbC.mono HB.out.2.2.1.size)) ((HB.out.2.2.2.below hbC (Nat.le_refl _)).more hbC.size))))
 clear HB hbC
 obtain ⟨⟨r0, r1, r2⟩, ⟨a0, a1, a2⟩, ⟨b0, b1, b2⟩⟩ := Hk.out wC HC.out.2.2.1
 obtain ⟨h1, h2, h3⟩ := Har.out wC HC.out.2.2.1
 have hf := Hrun.out.1
 have Hf := Lib.hid (show ∀ Q : Int → Prop, Q 0 → Q 2 → Q f from fun Q q0 q2 => by rcases hf with rfl | rfl <;> assumption)
 clear hf
 revert Hrun Hsz
 rcases (Hf.out (fun f => f = 0 ∨ f = 2) (.inl rfl) (.inr rfl)) with rfl | rfl
 all_goals (
  intro Hsz Hrun
  clear Hf
  go_wp2_with fail
  refine (Read_any A _ x hx wC h2).mono ?_
  clear r0 r1 r2 a0 a1 a2 b0 b1 b2 h1 h2 h3
  rintro e wD ⟨vD, rfl, -, hbD⟩
  have HD := Lib.hid (And.intro (HC.out.1.below hbD HC.out.1.lt) (And.intro ((HC.out.2.1.below hbD (Nat.le_refl _)).more hbD.size) (And.intro (HC.out.2.2.1.trans (hbD.mono HC.out.2.2.1.size)) ((HC.out.2.2.2.below hbD (Nat.le_refl _)).more hbD.size))))
  clear hbD
  have hR : readA A x = readL A.bls (bl x) := by unfold readA; rw [if_pos HV.out.2.2.1]
  rw [hR]
  have hor : (readL A.bls (bl x)).err = 0 ∨ xs.length = 0 := by
   by_cases e : xs = []
   ·exact .inr (by rw [e]; rfl)
   ·exact .inl (Hrun.out.2.1 e)
  clear hR
  have hcond : ((readL A.bls (bl x)).err != 0) = false ∨ (((readL A.bls (bl x)).err != 0) = true ∧ decide ((xs.length : Int) > 0) = false) := by
   by_cases e : (readL A.bls (bl x)).err = 0
   ·exact .inl (by simp [e])
   ·refine .inr ⟨by simp [e], ?_⟩
    rcases hor with h | h
    ·exact absurd h e
    ·simp [h]
  generalize readL A.bls (bl x) = RD at *
  obtain ⟨rl, re, ro⟩ := RD
  dsimp only at hcond hor ⊢
  rcases hcond with d1 | ⟨d1, d2⟩
  all_goals (
   try (have d3 : decide ((0 : Int) < (xs.length : Int)) = false := d2)
   try (have d4 : decide (0 < xs.length) = false := by simpa using d2)
   clear hor
   go_wp2_with fail
   go_loopw [21] (fun j wx => ∃ k : Nat, k ≤ xs.length ∧ j = .int .i64 k ∧ Below wD.heap.size wD wx) (fun j _ => xs.length - (intOf j).toNat)
   case atStart => exact ⟨0, Nat.zero_le _, rfl, Below.refl _ _⟩
   case round =>
    obtain ⟨k, hk, rfl, hb⟩ := hrel
    obtain ⟨wo, rfl⟩ : ∃ wo : World, wo = wr := ⟨_, rfl⟩
    have hbo := HD.out.2.2.1.trans (hb.mono HD.out.2.2.1.size)
    have HO := Lib.hid (And.intro hb hbo)
    by_cases hkl : k < xs.length
    ·obtain ⟨-, -, ⟨b0, b1, b2⟩⟩ := Hk.out wo hbo
     obtain ⟨-, -, h3⟩ := Har.out wo hbo
     have hrow := (HD.out.2.2.2.below hb (Nat.le_refl _)).more hb.size
     obtain ⟨gx, ox, rfl, hgx, hcx⟩ := hrow.strs (by omega)
     have x0 := hcx k hkl
     have hsz := Hsz.out _ (List.getElem_mem hkl)
     have hwd := Hrun.out.2.2 _ (List.getElem_mem hkl)
     obtain ⟨u, hu⟩ : ∃ u, xs[k] = u := ⟨_, rfl⟩
     rw [hu] at x0 hsz hwd
     have HQ := Lib.hid (Read_any B _ u (by unfold maxLen; omega) wo.drew h3)
     have HI := Lib.hid hwd
     have hln : w.heap.size + 2 < wo.heap.size := World.block_lt_of_cell? wo _ b0
     clear hcx hwd hu hrow h3 hb hbo
     go_wp2_with fail
     go_region_held3 (fun w' => w'.cell? ⟨w.heap.size + 2, 0, none⟩ = some (.string B.name) ∧ w'.cell? ⟨w.heap.size + 2, 1, none⟩ = some (.slice fa2 B.letters.length fc2) ∧ w'.cell? ⟨w.heap.size + 2, 2, none⟩ = some (.slice ga2 B.small.length gc2) ∧ w'.cell? ⟨gx, ox + k, none⟩ = some (.string u))
      (first | exact ⟨b0, b1, b2, x0⟩ | exact ⟨y0, y1, y2, z0⟩ | go_keep)
      (first | (go_at_call 11; refine HQ.out.mono ?_; rintro e wE ⟨vz, rfl, -, hbE⟩; have y0 := (hbE.cell (p := ⟨w.heap.size + 2, 0, none⟩) hln).trans b0; have y1 := (hbE.cell (p := ⟨w.heap.size + 2, 1, none⟩) hln).trans b1; have y2 := (hbE.cell (p := ⟨w.heap.size + 2, 2, none⟩) hln).trans b2; have z0 := (hbE.cell (p := ⟨gx, ox + k, none⟩) hgx).trans x0))
     all_goals (
      have hR : readA B u = readL B.bls (bl u) := by unfold readA; rw [if_pos HV.out.2.2.2.1]
      have hri := HI.out
      rw [← hR] at hri
      generalize readA B u = RB at *
      obtain ⟨rb, r', ro'⟩ := RB
      dsimp only at hri
      dsimp only
      have HB2 := Lib.hid (HO.out.1.drew.trans (hbE.mono HO.out.1.size))
      have Hri := Lib.hid hri
      clear b0 b1 b2 x0 y0 y1 y2 hbE hri hR HQ
      rcases Hri.out with h | h | h
      ·obtain rfl : u = ⟨#[]⟩ := bl_inj (by rw [h]; rfl)
       clear h
       go_wp2
       exact ⟨⟨k + 1, by omega, by go_num, HB2.out⟩, by simp [intOf]; omega⟩
      ·subst h
       go_wp2
       all_goals exact ⟨⟨k + 1, by omega, by go_num, HB2.out⟩, by simp [intOf]; omega⟩
      ·subst h
       go_wp2
       all_goals exact ⟨⟨k + 1, by omega, by go_num, HB2.out⟩, by simp [intOf]; omega⟩)
    ·obtain rfl : k = xs.length := by omega
     have k7 := HD.out.1.below HO.out.1 HD.out.1.lt
     have m0 : wo.cell? ⟨w5.heap.size, 0, none⟩ = some (.int .i64 M.states) := k7.cell 0
     have m1 : wo.cell? ⟨w5.heap.size, 1, none⟩ = some (.int .i64 M.start) := k7.cell 1
     have m2 : wo.cell? ⟨w5.heap.size, 2, none⟩ = some (.slice xa M.final.length xc) := k7.cell 2
     have m3 : wo.cell? ⟨w5.heap.size, 3, none⟩ = some (.slice ya M.arcs.length yc) := k7.cell 3
     have hRn := Lib.hid (Runs_any M _ ⟨#[]⟩ (by unfold maxLen; decide) wo ((HD.out.2.1.below HO.out.1 (Nat.le_refl _)).more HO.out.1.size))
     clear k7 hb hbo
     go_wp2_with fail
     refine hRn.out.mono ?_
     clear m0 m1 m2 m3
     rintro e wF ⟨vF, ns, g2, rfl, ⟨aF, cF, rfl, -⟩, hbF2, hroF⟩
     obtain ⟨rfl, rfl⟩ := words_none HV.out.1 HV.out.2 hroF
     have hbfin := Hw0.out.trans ((HO.out.2.trans (hbF2.mono HO.out.2.size)).mono Hw0.out.size)
     clear hbF2 hroF
     go_wp2
     go_ret
     exact ⟨rfl, hbfin⟩))
end Go.Proofs.YtabocamjaecaaaaGreatDoor
