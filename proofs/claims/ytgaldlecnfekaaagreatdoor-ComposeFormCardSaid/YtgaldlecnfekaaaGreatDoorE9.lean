/- Walk: the law ComposeForm. -/
import Derived.Test.YtgaldlecnfekaaaGreatDoorEH
import Derived.Test.YtgaldlecnfekaaaGreatDoorV1
namespace Go.Proofs.YtgaldlecnfekaaaGreatDoor
open Go.RowKit Classical

set_option maxRecDepth 100000 in
set_option maxHeartbeats 4000000 in
theorem form_any (M : Mach) (vm : Value) (N : Mach) (vn : Value) (A : Alph) (va : Value) (w : World) (hm : MachAt w w.heap.size vm M) (hn : MachAt w w.heap.size vn N) (ha : AlphAt w w.heap.size va A) :
    Calls Tryz.prog 7 #[vm, vn, va] w fun e w' => e = .returned (.bool true) ∧ Below w.heap.size w w' := by
  have Hm := Lib.hid (stays_mach hm)
  obtain ⟨fm, gm, am, bm, rfl, -, -, -, -⟩ := hm
  have Hn := Lib.hid (stays_mach hn)
  obtain ⟨fn, gn, an, bn, rfl, -, -, -, -⟩ := hn
  have Ha := Lib.hid (stays_alph ha)
  obtain ⟨fa, ga, aa, ba, rfl, -, -, -, -, -, -⟩ := ha
  go_enter Tryz.func7, Tryz.ntmps7
  go_wp2_with fail
  generalize hW0 : (((w.alloc _).alloc _).alloc _) = W0
  have F := Lib.hid (((((Stays.self w).put Hm.out (b := w.heap.size) rfl).put (Hn.out.alloc _) (b := w.heap.size + 1) (by simp)).putA ((Ha.out.alloc _).alloc _) (b := w.heap.size + 2) (by simp)).gen hW0)
  clear hW0 Hm Hn Ha
  refine (head14_any W0).mono ?_
  rintro e w1 ⟨rfl, hb⟩
  have F' := Lib.hid (F.out.move hb)
  clear F hb
  have F := F'
  clear F'
  obtain ⟨-, -, km, -⟩ := F.out.now
  have m0 := km.c0
  have m1 := km.c1
  have m2 := km.c2
  have m3 := km.c3
  have mm := km.mach
  clear km
  obtain ⟨-, kn, -, -⟩ := F.out.now
  have n0 := kn.c0
  have n1 := kn.c1
  have n2 := kn.c2
  have n3 := kn.c3
  have mn := kn.mach
  clear kn
  go_wp2_with fail
  generalize hWa : (w1.alloc _) = w2
  have hk := ((stays_blk (Blk.new w1 _ _)).gen hWa).now
  have F' := Lib.hid ((F.out.alloc _).gen hWa)
  clear F
  have F := F'
  clear F' hWa
  obtain ⟨-, kn, km, -⟩ := F.out.now
  clear m0 m1 m2 m3 mm n0 n1 n2 n3 mn
  refine (few14_any [M, N] w1.heap.size 0 2 w2 (by simp) hk.lt (mrow2 hk km kn)).mono ?_
  clear hk km kn
  rintro e w3 ⟨rfl, hb⟩
  have F' := Lib.hid (F.out.move hb)
  clear F hb
  have F := F'
  clear F'
  obtain ⟨-, -, -, hbw⟩ := F.out.now
  by_cases hf : ¬ (∀ Q ∈ [M, N], FewM Q)
  · rw [decide_eq_false hf]
    clear hf
    go_wp2
    go_ret
    exact ⟨rfl, hbw⟩
  rw [decide_eq_true (Classical.not_not.1 hf)]
  have Few := Lib.hid (Classical.not_not.1 hf)
  clear hf hbw
  obtain ⟨ka, -, -, -⟩ := F.out.now
  have a0 := ka.c0
  have a1 := ka.c1
  have a2 := ka.c2
  have ma := ka.alph
  clear ka
  go_wp2_with fail
  refine (few10_any _ A w3 ma).mono ?_
  rintro e w4 ⟨rfl, hb⟩
  clear a0 a1 a2 ma
  have F' := Lib.hid (F.out.move hb)
  clear F hb
  have F := F'
  clear F'
  by_cases hf : ¬ Few10 A
  · rw [decide_eq_false hf]
    clear hf
    obtain ⟨-, -, -, hbw⟩ := F.out.now
    go_wp2
    go_ret
    exact ⟨rfl, hbw⟩
  rw [decide_eq_true (Classical.not_not.1 hf)]
  clear hf
  go_upto_region 4 with (fail)
  obtain ⟨-, -, km, -⟩ := F.out.now
  have m0 := km.c0
  have m1 := km.c1
  have m2 := km.c2
  have m3 := km.c3
  have mm := km.mach
  clear km
  obtain ⟨-, kn, -, -⟩ := F.out.now
  have n0 := kn.c0
  have n1 := kn.c1
  have n2 := kn.c2
  have n3 := kn.c3
  have mn := kn.mach
  clear kn
  go_wp2_with fail
  refine (Compose_any M N _ _ w4 mm mn).mono ?_
  rintro e w5 ⟨vc, C, e, rfl, hm, hb, hC⟩
  clear m0 m1 m2 m3 mm n0 n1 n2 n3 mn
  have hv1 := form_1 (Few.out M (by simp)) (Few.out N (by simp)) hC
  have V1 := Lib.hid hv1
  clear hC hv1
  have G := Lib.hid (stays_mach hm)
  obtain ⟨fc, gc, ac, bc, rfl, -, -, -, -⟩ := hm
  go_upto_region 5 with (fail)
  generalize hWa : (w5.alloc _) = w6
  have F' := Lib.hid (((F.out.move hb).put G.out rfl).gen hWa)
  have hlt : w5.heap.size < w6.heap.size := by rw [← hWa]; simp
  clear F hb G hWa hlt
  have F := F'
  clear F'
  obtain ⟨-, -, -, km, -⟩ := F.out.now
  have m0 := km.c0
  have m1 := km.c1
  have m2 := km.c2
  have m3 := km.c3
  have mm := km.mach
  clear km
  obtain ⟨-, -, kn, -, -⟩ := F.out.now
  have n0 := kn.c0
  have n1 := kn.c1
  have n2 := kn.c2
  have n3 := kn.c3
  have mn := kn.mach
  clear kn
  go_wp2_with fail
  refine (Union_any M N _ _ w6 mm mn).mono ?_
  rintro e w7 ⟨vd, D, f, rfl, hm, hb, hC⟩
  clear m0 m1 m2 m3 mm n0 n1 n2 n3 mn
  have hv1 := form_2 (Few.out M (by simp)) (Few.out N (by simp)) hC
  have V2 := Lib.hid hv1
  clear hC hv1
  have G := Lib.hid (stays_mach hm)
  obtain ⟨fd, gd, ad, bd, rfl, -, -, -, -⟩ := hm
  go_upto_region 6 with (fail)
  generalize hWa : (w7.alloc _) = w8
  have F' := Lib.hid (((F.out.move hb).put G.out rfl).gen hWa)
  have hlt : w7.heap.size < w8.heap.size := by rw [← hWa]; simp
  clear F hb G hWa hlt
  have F := F'
  clear F'
  obtain ⟨-, -, ka, -, -, -⟩ := F.out.now
  have a0 := ka.c0
  have a1 := ka.c1
  have a2 := ka.c2
  have ma := ka.alph
  clear ka
  go_wp2_with fail
  refine (Copy_any A _ w8 ma).mono ?_
  rintro e w9 ⟨vb, B, g, rfl, hm, hb, hC⟩
  clear a0 a1 a2 ma
  have V3 := Lib.hid (form_3 hC)
  clear hC
  have G := Lib.hid (stays_mach hm)
  obtain ⟨fb, gb, ab, bb, rfl, -, -, -, -⟩ := hm
  go_upto_region 7 with (fail)
  generalize hWa : (w9.alloc _) = w10
  have F' := Lib.hid (((F.out.move hb).put G.out rfl).gen hWa)
  have hlt : w9.heap.size < w10.heap.size := by rw [← hWa]; simp
  clear F hb G hWa hlt
  have F := F'
  clear F'
  have hv : (e = 1 ∧ f = 1 ∧ ¬ ValidM C ∧ ¬ ValidM D) ∨ (e = 0 ∧ f = 0 ∧ ValidM D ∧ ValidM C ∧ trimM C = C ∧ ValidM M ∧ ValidM N ∧ (Circle C → Circle M ∨ Circle N)) := by
    rcases V1.out with ⟨e1, n1, n2⟩ | ⟨e0, h1, h2, h3, h4, h5⟩ <;> rcases V2.out with ⟨f1, n3, n4⟩ | ⟨f0, h6, h7, h8⟩
    · exact .inl ⟨e1, f1, n1, n3⟩
    · exact absurd ⟨h7, h8⟩ n2
    · exact absurd ⟨h3, h4⟩ n4
    · exact .inr ⟨e0, f0, h6, h1, h2, h3, h4, h5⟩
  have hg := V3.out
  clear V1 V2 V3 Few
  rcases hv with ⟨rfl, rfl, hC, hD⟩ | ⟨rfl, rfl, hD, hC, hV⟩ <;> rcases hg with ⟨rfl, hB⟩ | ⟨rfl, hB⟩
  · have V := Lib.hid (And.intro hC (And.intro hD hB))
    clear hC hD hB
    obtain ⟨-, -, kc, -, -, -, -⟩ := F.out.now
    have c0 := kc.c0
    have c1 := kc.c1
    have c2 := kc.c2
    have c3 := kc.c3
    have mc := kc.mach
    clear kc
    go_wp2_with fail
    refine (MValid_any C _ w10 mc).mono ?_
    rintro e w11 ⟨rfl, hb⟩
    rw [decide_eq_false V.out.1]
    clear c0 c1 c2 c3 mc
    have F' := Lib.hid (F.out.move hb)
    clear F hb
    have F := F'
    clear F'
    obtain ⟨-, kd, -, -, -, -, -⟩ := F.out.now
    have d0 := kd.c0
    have d1 := kd.c1
    have d2 := kd.c2
    have d3 := kd.c3
    have md := kd.mach
    clear kd
    go_wp2_with fail
    refine (MValid_any D _ w11 md).mono ?_
    rintro e w12 ⟨rfl, hb⟩
    rw [decide_eq_false V.out.2.1]
    clear d0 d1 d2 d3 md
    have F' := Lib.hid (F.out.move hb)
    clear F hb
    have F := F'
    clear F'
    obtain ⟨kb, -, -, -, -, -, -⟩ := F.out.now
    have b0 := kb.c0
    have b1 := kb.c1
    have b2 := kb.c2
    have b3 := kb.c3
    have mb := kb.mach
    clear kb
    go_wp2_with fail
    refine (MValid_any B _ w12 mb).mono ?_
    rintro e w13 ⟨rfl, hb⟩
    rw [decide_eq_false V.out.2.2]
    clear b0 b1 b2 b3 mb
    have F' := Lib.hid (F.out.move hb)
    clear F hb
    have F := F'
    clear F'
    clear V
    obtain ⟨-, -, -, -, -, -, hbw⟩ := F.out.now
    go_wp2
    go_ret
    exact ⟨rfl, hbw⟩
  · have V := Lib.hid (And.intro hC (And.intro hD hB))
    clear hC hD hB
    obtain ⟨-, -, kc, -, -, -, -⟩ := F.out.now
    have c0 := kc.c0
    have c1 := kc.c1
    have c2 := kc.c2
    have c3 := kc.c3
    have mc := kc.mach
    clear kc
    go_wp2_with fail
    refine (MValid_any C _ w10 mc).mono ?_
    rintro e w11 ⟨rfl, hb⟩
    rw [decide_eq_false V.out.1]
    clear c0 c1 c2 c3 mc
    have F' := Lib.hid (F.out.move hb)
    clear F hb
    have F := F'
    clear F'
    obtain ⟨-, kd, -, -, -, -, -⟩ := F.out.now
    have d0 := kd.c0
    have d1 := kd.c1
    have d2 := kd.c2
    have d3 := kd.c3
    have md := kd.mach
    clear kd
    go_wp2_with fail
    refine (MValid_any D _ w11 md).mono ?_
    rintro e w12 ⟨rfl, hb⟩
    rw [decide_eq_false V.out.2.1]
    clear d0 d1 d2 d3 md
    have F' := Lib.hid (F.out.move hb)
    clear F hb
    have F := F'
    clear F'
    obtain ⟨kb, -, -, -, -, -, -⟩ := F.out.now
    have b0 := kb.c0
    have b1 := kb.c1
    have b2 := kb.c2
    have b3 := kb.c3
    have mb := kb.mach
    clear kb
    go_wp2_with fail
    refine (MValid_any B _ w12 mb).mono ?_
    rintro e w13 ⟨rfl, hb⟩
    rw [decide_eq_true V.out.2.2]
    clear b0 b1 b2 b3 mb
    have F' := Lib.hid (F.out.move hb)
    clear F hb
    have F := F'
    clear F'
    clear V
    obtain ⟨-, -, -, -, -, -, hbw⟩ := F.out.now
    go_wp2
    go_ret
    exact ⟨rfl, hbw⟩
  · have V := Lib.hid (And.intro hC (And.intro hD (And.intro hB hV)))
    clear hC hD hB hV
    obtain ⟨-, -, kc, -, -, -, -⟩ := F.out.now
    have c0 := kc.c0
    have c1 := kc.c1
    have c2 := kc.c2
    have c3 := kc.c3
    have mc := kc.mach
    clear kc
    go_wp2_with fail
    refine (MValid_any C _ w10 mc).mono ?_
    rintro e w11 ⟨rfl, hb⟩
    rw [decide_eq_true V.out.1]
    clear c0 c1 c2 c3 mc
    have F' := Lib.hid (F.out.move hb)
    clear F hb
    have F := F'
    clear F'
    obtain ⟨-, kd, -, -, -, -, -⟩ := F.out.now
    have d0 := kd.c0
    have d1 := kd.c1
    have d2 := kd.c2
    have d3 := kd.c3
    have md := kd.mach
    clear kd
    go_wp2_with fail
    refine (MValid_any D _ w11 md).mono ?_
    rintro e w12 ⟨rfl, hb⟩
    rw [decide_eq_true V.out.2.1]
    clear d0 d1 d2 d3 md
    have F' := Lib.hid (F.out.move hb)
    clear F hb
    have F := F'
    clear F'
    obtain ⟨kb, -, -, -, -, -, -⟩ := F.out.now
    have b0 := kb.c0
    have b1 := kb.c1
    have b2 := kb.c2
    have b3 := kb.c3
    have mb := kb.mach
    clear kb
    go_wp2_with fail
    refine (MValid_any B _ w12 mb).mono ?_
    rintro e w13 ⟨rfl, hb⟩
    rw [decide_eq_false V.out.2.2.1]
    clear b0 b1 b2 b3 mb
    have F' := Lib.hid (F.out.move hb)
    clear F hb
    have F := F'
    clear F'
    go_upto_region 11 with (fail)
    obtain ⟨-, -, kc, -, -, -, -⟩ := F.out.now
    have c0 := kc.c0
    have c1 := kc.c1
    have c2 := kc.c2
    have c3 := kc.c3
    have mc := kc.mach
    clear kc
    go_wp2_with fail
    refine (Trim_any C _ w13 mc).mono ?_
    rintro e w14 ⟨vz, T, h, rfl, hm, hb, -, hok⟩
    clear c0 c1 c2 c3 mc
    obtain ⟨rfl, hT⟩ := hok V.out.1
    rw [V.out.2.2.2.1] at hT
    subst hT
    clear hok
    have G := Lib.hid (stays_mach hm)
    obtain ⟨fz, gz, az, bz, rfl, -, -, -, -⟩ := hm
    go_upto_region 12 with (fail)
    generalize hWa : (w14.alloc _) = w15
    have F' := Lib.hid (((F.out.move hb).put G.out rfl).gen hWa)
    have hlt : w14.heap.size < w15.heap.size := by rw [← hWa]; simp
    clear F hb G hWa hlt
    have F := F'
    clear F'
    obtain ⟨-, -, -, -, -, -, km, -⟩ := F.out.now
    have m0 := km.c0
    have m1 := km.c1
    have m2 := km.c2
    have m3 := km.c3
    have mm := km.mach
    clear km
    go_wp2_with fail
    refine (Runs_any M _ ⟨#[]⟩ (by decide) w15 mm).mono ?_
    rintro e w16 ⟨vr, l1, i, rfl, ⟨pl1, cl1, rfl, hr⟩, hb, hr1⟩
    clear m0 m1 m2 m3 mm
    have F' := Lib.hid (((F.out.move hb).and (stays_row hr)).weak fun _ h => And.intro h.2 h.1)
    clear F hb hr
    have F := F'
    clear F'
    have R1 := Lib.hid hr1
    clear hr1
    go_upto_region 13 with (fail)
    obtain ⟨-, -, -, -, -, -, kn, -, -⟩ := F.out.now
    have n0 := kn.c0
    have n1 := kn.c1
    have n2 := kn.c2
    have n3 := kn.c3
    have mn := kn.mach
    clear kn
    go_wp2_with fail
    refine (Runs_any N _ ⟨#[]⟩ (by decide) w16 mn).mono ?_
    rintro e w17 ⟨vr, l2, k, rfl, ⟨pl2, cl2, rfl, hr⟩, hb, hr2⟩
    clear n0 n1 n2 n3 mn
    have F' := Lib.hid (((F.out.move hb).and (stays_row hr)).weak fun _ h => And.intro h.2 h.1)
    clear F hb hr
    have F := F'
    clear F'
    have R2 := Lib.hid hr2
    clear hr2
    go_upto_region 14 with (fail)
    obtain ⟨-, -, -, -, -, kc, -, -, -, -⟩ := F.out.now
    have c0 := kc.c0
    have c1 := kc.c1
    have c2 := kc.c2
    have c3 := kc.c3
    have mc := kc.mach
    clear kc
    go_wp2_with fail
    refine (Runs_any T _ ⟨#[]⟩ (by decide) w17 mc).mono ?_
    rintro e w18 ⟨vr, l3, l, rfl, ⟨pl3, cl3, rfl, hr⟩, hb, hr3⟩
    clear c0 c1 c2 c3 mc
    have F' := Lib.hid (((F.out.move hb).and (stays_row hr)).weak fun _ h => And.intro h.2 h.1)
    clear F hb hr
    have F := F'
    clear F'
    have hv := form_4 V.out.2.2.2.2.1 V.out.2.2.2.2.2.1 V.out.2.2.2.2.2.2 R1.out R2.out hr3
    clear hr3 R1 R2 V
    go_upto_region 15 with (fail)
    obtain ⟨-, -, -, kz, -, -, -, -, -, -, -⟩ := F.out.now
    have z0 := kz.c0
    have z1 := kz.c1
    have z2 := kz.c2
    have z3 := kz.c3
    have mz := kz.mach
    clear kz
    obtain ⟨-, -, -, -, -, -, kc, -, -, -, -⟩ := F.out.now
    have c0 := kc.c0
    have c1 := kc.c1
    have c2 := kc.c2
    have c3 := kc.c3
    have mc := kc.mach
    clear kc
    have hq := Same12_any _ _ _ _ w18 mz mc
    rw [decide_eq_true rfl] at hq
    have Hq := Lib.hid hq
    clear hq mz mc
    obtain ⟨-, -, -, -, -, -, -, -, -, -, hbw⟩ := F.out.now
    rcases hv with rfl | ⟨hi12, rfl⟩ | ⟨hi12, hk12, hl12⟩
    · go_wp2_with (go_at_call 21; refine Hq.out.mono ?_; rintro e wz ⟨rfl, hb⟩)
      go_ret
      exact ⟨rfl, hbw.trans (hb.mono hbw.size)⟩
    · have di12 : (i == 12) = false := by simp [hi12]
      have ci12 : (i != 12) = true := by simp [hi12]
      go_wp2_with (go_at_call 21; refine Hq.out.mono ?_; rintro e wz ⟨rfl, hb⟩)
      go_ret
      exact ⟨rfl, hbw.trans (hb.mono hbw.size)⟩
    · have di12 : (i == 12) = false := by simp [hi12]
      have ci12 : (i != 12) = true := by simp [hi12]
      have dk12 : (k == 12) = false := by simp [hk12]
      have ck12 : (k != 12) = true := by simp [hk12]
      have dl12 : (l == 12) = false := by simp [hl12]
      have cl12 : (l != 12) = true := by simp [hl12]
      go_wp2_with (go_at_call 21; refine Hq.out.mono ?_; rintro e wz ⟨rfl, hb⟩)
      go_ret
      exact ⟨rfl, hbw.trans (hb.mono hbw.size)⟩
  · have V := Lib.hid (And.intro hC (And.intro hD (And.intro hB hV)))
    clear hC hD hB hV
    obtain ⟨-, -, kc, -, -, -, -⟩ := F.out.now
    have c0 := kc.c0
    have c1 := kc.c1
    have c2 := kc.c2
    have c3 := kc.c3
    have mc := kc.mach
    clear kc
    go_wp2_with fail
    refine (MValid_any C _ w10 mc).mono ?_
    rintro e w11 ⟨rfl, hb⟩
    rw [decide_eq_true V.out.1]
    clear c0 c1 c2 c3 mc
    have F' := Lib.hid (F.out.move hb)
    clear F hb
    have F := F'
    clear F'
    obtain ⟨-, kd, -, -, -, -, -⟩ := F.out.now
    have d0 := kd.c0
    have d1 := kd.c1
    have d2 := kd.c2
    have d3 := kd.c3
    have md := kd.mach
    clear kd
    go_wp2_with fail
    refine (MValid_any D _ w11 md).mono ?_
    rintro e w12 ⟨rfl, hb⟩
    rw [decide_eq_true V.out.2.1]
    clear d0 d1 d2 d3 md
    have F' := Lib.hid (F.out.move hb)
    clear F hb
    have F := F'
    clear F'
    obtain ⟨kb, -, -, -, -, -, -⟩ := F.out.now
    have b0 := kb.c0
    have b1 := kb.c1
    have b2 := kb.c2
    have b3 := kb.c3
    have mb := kb.mach
    clear kb
    go_wp2_with fail
    refine (MValid_any B _ w12 mb).mono ?_
    rintro e w13 ⟨rfl, hb⟩
    rw [decide_eq_true V.out.2.2.1]
    clear b0 b1 b2 b3 mb
    have F' := Lib.hid (F.out.move hb)
    clear F hb
    have F := F'
    clear F'
    go_upto_region 11 with (fail)
    obtain ⟨-, -, kc, -, -, -, -⟩ := F.out.now
    have c0 := kc.c0
    have c1 := kc.c1
    have c2 := kc.c2
    have c3 := kc.c3
    have mc := kc.mach
    clear kc
    go_wp2_with fail
    refine (Trim_any C _ w13 mc).mono ?_
    rintro e w14 ⟨vz, T, h, rfl, hm, hb, -, hok⟩
    clear c0 c1 c2 c3 mc
    obtain ⟨rfl, hT⟩ := hok V.out.1
    rw [V.out.2.2.2.1] at hT
    subst hT
    clear hok
    have G := Lib.hid (stays_mach hm)
    obtain ⟨fz, gz, az, bz, rfl, -, -, -, -⟩ := hm
    go_upto_region 12 with (fail)
    generalize hWa : (w14.alloc _) = w15
    have F' := Lib.hid (((F.out.move hb).put G.out rfl).gen hWa)
    have hlt : w14.heap.size < w15.heap.size := by rw [← hWa]; simp
    clear F hb G hWa hlt
    have F := F'
    clear F'
    obtain ⟨-, -, -, -, -, -, km, -⟩ := F.out.now
    have m0 := km.c0
    have m1 := km.c1
    have m2 := km.c2
    have m3 := km.c3
    have mm := km.mach
    clear km
    go_wp2_with fail
    refine (Runs_any M _ ⟨#[]⟩ (by decide) w15 mm).mono ?_
    rintro e w16 ⟨vr, l1, i, rfl, ⟨pl1, cl1, rfl, hr⟩, hb, hr1⟩
    clear m0 m1 m2 m3 mm
    have F' := Lib.hid (((F.out.move hb).and (stays_row hr)).weak fun _ h => And.intro h.2 h.1)
    clear F hb hr
    have F := F'
    clear F'
    have R1 := Lib.hid hr1
    clear hr1
    go_upto_region 13 with (fail)
    obtain ⟨-, -, -, -, -, -, kn, -, -⟩ := F.out.now
    have n0 := kn.c0
    have n1 := kn.c1
    have n2 := kn.c2
    have n3 := kn.c3
    have mn := kn.mach
    clear kn
    go_wp2_with fail
    refine (Runs_any N _ ⟨#[]⟩ (by decide) w16 mn).mono ?_
    rintro e w17 ⟨vr, l2, k, rfl, ⟨pl2, cl2, rfl, hr⟩, hb, hr2⟩
    clear n0 n1 n2 n3 mn
    have F' := Lib.hid (((F.out.move hb).and (stays_row hr)).weak fun _ h => And.intro h.2 h.1)
    clear F hb hr
    have F := F'
    clear F'
    have R2 := Lib.hid hr2
    clear hr2
    go_upto_region 14 with (fail)
    obtain ⟨-, -, -, -, -, kc, -, -, -, -⟩ := F.out.now
    have c0 := kc.c0
    have c1 := kc.c1
    have c2 := kc.c2
    have c3 := kc.c3
    have mc := kc.mach
    clear kc
    go_wp2_with fail
    refine (Runs_any T _ ⟨#[]⟩ (by decide) w17 mc).mono ?_
    rintro e w18 ⟨vr, l3, l, rfl, ⟨pl3, cl3, rfl, hr⟩, hb, hr3⟩
    clear c0 c1 c2 c3 mc
    have F' := Lib.hid (((F.out.move hb).and (stays_row hr)).weak fun _ h => And.intro h.2 h.1)
    clear F hb hr
    have F := F'
    clear F'
    have hv := form_4 V.out.2.2.2.2.1 V.out.2.2.2.2.2.1 V.out.2.2.2.2.2.2 R1.out R2.out hr3
    clear hr3 R1 R2 V
    go_upto_region 15 with (fail)
    obtain ⟨-, -, -, kz, -, -, -, -, -, -, -⟩ := F.out.now
    have z0 := kz.c0
    have z1 := kz.c1
    have z2 := kz.c2
    have z3 := kz.c3
    have mz := kz.mach
    clear kz
    obtain ⟨-, -, -, -, -, -, kc, -, -, -, -⟩ := F.out.now
    have c0 := kc.c0
    have c1 := kc.c1
    have c2 := kc.c2
    have c3 := kc.c3
    have mc := kc.mach
    clear kc
    have hq := Same12_any _ _ _ _ w18 mz mc
    rw [decide_eq_true rfl] at hq
    have Hq := Lib.hid hq
    clear hq mz mc
    obtain ⟨-, -, -, -, -, -, -, -, -, -, hbw⟩ := F.out.now
    rcases hv with rfl | ⟨hi12, rfl⟩ | ⟨hi12, hk12, hl12⟩
    · go_wp2_with (go_at_call 21; refine Hq.out.mono ?_; rintro e wz ⟨rfl, hb⟩)
      go_ret
      exact ⟨rfl, hbw.trans (hb.mono hbw.size)⟩
    · have di12 : (i == 12) = false := by simp [hi12]
      have ci12 : (i != 12) = true := by simp [hi12]
      go_wp2_with (go_at_call 21; refine Hq.out.mono ?_; rintro e wz ⟨rfl, hb⟩)
      go_ret
      exact ⟨rfl, hbw.trans (hb.mono hbw.size)⟩
    · have di12 : (i == 12) = false := by simp [hi12]
      have ci12 : (i != 12) = true := by simp [hi12]
      have dk12 : (k == 12) = false := by simp [hk12]
      have ck12 : (k != 12) = true := by simp [hk12]
      have dl12 : (l == 12) = false := by simp [hl12]
      have cl12 : (l != 12) = true := by simp [hl12]
      go_wp2_with (go_at_call 21; refine Hq.out.mono ?_; rintro e wz ⟨rfl, hb⟩)
      go_ret
      exact ⟨rfl, hbw.trans (hb.mono hbw.size)⟩
end Go.Proofs.YtgaldlecnfekaaaGreatDoor
