/- Walk: the law ComposeMatchesReference. -/
import Derived.Test.YtfihjpffjdnahaaGreatDoorEP
import Derived.Test.YtfihjpffjdnahaaGreatDoorEU
import Derived.Test.YtfihjpffjdnahaaGreatDoorEC
namespace Go.Proofs.YtfihjpffjdnahaaGreatDoor
open Go.RowKit Classical

set_option maxRecDepth 100000 in
set_option maxHeartbeats 4000000 in
theorem matches_any (M : Mach) (vm : Value) (N : Mach) (vn : Value) (A : Alph) (va : Value) (w : World) (hm : MachAt w w.heap.size vm M) (hn : MachAt w w.heap.size vn N) (ha : AlphAt w w.heap.size va A) :
  Calls Tryz.prog 3 #[vm, vn, va] w fun e w' => e = .returned (.bool true) ∧ Below w.heap.size w w' := by
 have Hm := Lib.hid (stays_mach hm)
 obtain ⟨fm, gm, am, bm, rfl, -, -, -, -⟩ := hm
 have Hn := Lib.hid (stays_mach hn)
 obtain ⟨fn, gn, an, bn, rfl, -, -, -, -⟩ := hn
 have Ha := Lib.hid (stays_alph ha)
 obtain ⟨fa, ga, aa, ba, rfl, -, -, -, -, -, -⟩ := ha
 go_enter Tryz.func3, Tryz.ntmps3
 go_wp2_with fail
 generalize hW0 : (((w.alloc _).alloc _).alloc _) = W0
 have F := Lib.hid (((((Stays.self w).put Hm.out (b := w.heap.size) rfl).put (Hn.out.alloc _) (b := w.heap.size + 1) (by simp)).putA ((Ha.out.alloc _).alloc _) (b := w.heap.size + 2) (by simp)).gen hW0)
 clear hW0 Hm Hn Ha
 refine (head14_any W0).mono ?_
 rintro e w1 ⟨rfl, hb⟩
 have F' := Lib.hid (F.out.move hb)
 clear F hb
 have F := F'
 clear F'
 obtain ⟨-, -, km, -⟩ := F.out.now
 have m0 := km.c0
 have m1 := km.c1
 have m2 := km.c2
 have m3 := km.c3
 have mm := km.mach
 clear km
 obtain ⟨-, kn, -, -⟩ := F.out.now
 have n0 := kn.c0
 have n1 := kn.c1
 have n2 := kn.c2
 have n3 := kn.c3
 have mn := kn.mach
 clear kn
 go_wp2_with fail
 generalize hWa : (w1.alloc _) = w2
 have hk := ((stays_blk (Blk.new w1 _ _)).gen hWa).now
 have F' := Lib.hid ((F.out.alloc _).gen hWa)
 clear F
 have F := F'
 clear F' hWa
 obtain ⟨-, kn, km, -⟩ := F.out.now
 clear m0 m1 m2 m3 mm n0 n1 n2 n3 mn
 refine (few14_any [M, N] w1.heap.size 0 2 w2 (by simp) hk.lt (mrow2 hk km kn)).mono ?_
 clear hk km kn
 rintro e w3 ⟨rfl, hb⟩
 have F' := Lib.hid (F.out.move hb)
 clear F hb
 have F := F'
 clear F'
 obtain ⟨-, -, -, hbw⟩ := F.out.now
 by_cases hf : ¬ (∀ Q ∈ [M, N], FewM Q)
 ·rw [decide_eq_false hf]
  clear hf
  go_wp2
  go_ret
  exact ⟨rfl, hbw⟩
 rw [decide_eq_true (Classical.not_not.1 hf)]
 have Few := Lib.hid (Classical.not_not.1 hf)
 clear hf hbw
 obtain ⟨ka, -, -, -⟩ := F.out.now
 have a0 := ka.c0
 have a1 := ka.c1
 have a2 := ka.c2
 have ma := ka.alph
 clear ka
 go_wp2_with fail
 refine (few10_any _ A w3 ma).mono ?_
 rintro e w4 ⟨rfl, hb⟩
 clear a0 a1 a2 ma
 have F' := Lib.hid (F.out.move hb)
 clear F hb
 have F := F'
 clear F'
 by_cases hf : ¬ Few10 A
 ·rw [decide_eq_false hf]
  clear hf
  obtain ⟨-, -, -, hbw⟩ := F.out.now
  go_wp2
  go_ret
  exact ⟨rfl, hbw⟩
 rw [decide_eq_true (Classical.not_not.1 hf)]
 clear hf
 go_upto_region 4 with (fail)
 obtain ⟨-, -, km, -⟩ := F.out.now
 have m0 := km.c0
 have m1 := km.c1
 have m2 := km.c2
 have m3 := km.c3
 have mm := km.mach
 clear km
 obtain ⟨-, kn, -, -⟩ := F.out.now
 have n0 := kn.c0
 have n1 := kn.c1
 have n2 := kn.c2
 have n3 := kn.c3
 have mn := kn.mach
 clear kn
 go_wp2_with fail
 refine (Compose_any M N _ _ w4 mm mn).mono ?_
 rintro e w5 ⟨vc, C, g1, rfl, hm, hb, hC⟩
 clear m0 m1 m2 m3 mm n0 n1 n2 n3 mn
 have C1 := Lib.hid hC
 clear hC
 have G := Lib.hid (stays_mach hm)
 obtain ⟨fc, gc, ac, bc, rfl, -, -, -, -⟩ := hm
 go_upto_region 5 with (fail)
 generalize hWa : (w5.alloc _) = w6
 have F' := Lib.hid (((F.out.move hb).put G.out rfl).gen hWa)
 have hlt : w5.heap.size < w6.heap.size := by rw [← hWa]; simp
 clear F hb G hWa hlt
 have F := F'
 clear F'
 obtain ⟨-, -, -, km, -⟩ := F.out.now
 have m0 := km.c0
 have m1 := km.c1
 have m2 := km.c2
 have m3 := km.c3
 have mm := km.mach
 clear km
 obtain ⟨-, -, kn, -, -⟩ := F.out.now
 have n0 := kn.c0
 have n1 := kn.c1
 have n2 := kn.c2
 have n3 := kn.c3
 have mn := kn.mach
 clear kn
 go_wp2_with fail
 refine (RCompose_any M N (Few.out M (by simp)) (Few.out N (by simp)) _ _ w6 mm mn).mono ?_
 rintro e w7 ⟨vd, D, g2, rfl, hm, hb, hC⟩
 clear m0 m1 m2 m3 mm n0 n1 n2 n3 mn
 obtain ⟨hU, hE⟩ := CompOut.uniq C1.out hC
 subst hU hE
 clear hC C1
 have G := Lib.hid (stays_mach hm)
 obtain ⟨fd, gd, ad, bd, rfl, -, -, -, -⟩ := hm
 go_upto_region 6 with (fail)
 generalize hWa : (w7.alloc _) = w8
 have F' := Lib.hid (((F.out.move hb).put G.out rfl).gen hWa)
 have hlt : w7.heap.size < w8.heap.size := by rw [← hWa]; simp
 clear F hb G hWa hlt
 have F := F'
 clear F'
 obtain ⟨-, -, -, -, km, -⟩ := F.out.now
 have m0 := km.c0
 have m1 := km.c1
 have m2 := km.c2
 have m3 := km.c3
 have mm := km.mach
 clear km
 obtain ⟨-, -, -, kn, -, -⟩ := F.out.now
 have n0 := kn.c0
 have n1 := kn.c1
 have n2 := kn.c2
 have n3 := kn.c3
 have mn := kn.mach
 clear kn
 go_wp2_with fail
 refine (Union_any M N _ _ w8 mm mn).mono ?_
 rintro e w9 ⟨vp, P, g3, rfl, hm, hb, hC⟩
 clear m0 m1 m2 m3 mm n0 n1 n2 n3 mn
 have C1 := Lib.hid hC
 clear hC
 have G := Lib.hid (stays_mach hm)
 obtain ⟨fp, gp, ap, bp, rfl, -, -, -, -⟩ := hm
 go_upto_region 7 with (fail)
 generalize hWa : (w9.alloc _) = w10
 have F' := Lib.hid (((F.out.move hb).put G.out rfl).gen hWa)
 have hlt : w9.heap.size < w10.heap.size := by rw [← hWa]; simp
 clear F hb G hWa hlt
 have F := F'
 clear F'
 obtain ⟨-, -, -, -, -, km, -⟩ := F.out.now
 have m0 := km.c0
 have m1 := km.c1
 have m2 := km.c2
 have m3 := km.c3
 have mm := km.mach
 clear km
 obtain ⟨-, -, -, -, kn, -, -⟩ := F.out.now
 have n0 := kn.c0
 have n1 := kn.c1
 have n2 := kn.c2
 have n3 := kn.c3
 have mn := kn.mach
 clear kn
 go_wp2_with fail
 refine (RUnion_any M N _ _ w10 mm mn).mono ?_
 rintro e w11 ⟨vq, Q, g4, rfl, hm, hb, hC⟩
 clear m0 m1 m2 m3 mm n0 n1 n2 n3 mn
 obtain ⟨hU, hE⟩ := UnionOut.uniq C1.out hC
 subst hU hE
 clear hC C1
 have G := Lib.hid (stays_mach hm)
 obtain ⟨fq, gq, aq, bq, rfl, -, -, -, -⟩ := hm
 go_upto_region 8 with (fail)
 generalize hWa : (w11.alloc _) = w12
 have F' := Lib.hid (((F.out.move hb).put G.out rfl).gen hWa)
 have hlt : w11.heap.size < w12.heap.size := by rw [← hWa]; simp
 clear F hb G hWa hlt
 have F := F'
 clear F'
 obtain ⟨-, -, -, -, ka, -, -, -⟩ := F.out.now
 have a0 := ka.c0
 have a1 := ka.c1
 have a2 := ka.c2
 have ma := ka.alph
 clear ka
 go_wp2_with fail
 refine (Copy_any A _ w12 ma).mono ?_
 rintro e w13 ⟨vr, R, g5, rfl, hm, hb, hC⟩
 clear a0 a1 a2 ma
 have C1 := Lib.hid hC
 clear hC
 have G := Lib.hid (stays_mach hm)
 obtain ⟨fr, gr, ar, br, rfl, -, -, -, -⟩ := hm
 go_upto_region 9 with (fail)
 generalize hWa : (w13.alloc _) = w14
 have F' := Lib.hid (((F.out.move hb).put G.out rfl).gen hWa)
 have hlt : w13.heap.size < w14.heap.size := by rw [← hWa]; simp
 clear F hb G hWa hlt
 have F := F'
 clear F'
 obtain ⟨-, -, -, -, -, ka, -, -, -⟩ := F.out.now
 have a0 := ka.c0
 have a1 := ka.c1
 have a2 := ka.c2
 have ma := ka.alph
 clear ka
 go_wp2_with fail
 refine (RCopy_any A _ w14 ma).mono ?_
 rintro e w15 ⟨vz, Z, g6, rfl, hm, hb, hC⟩
 clear a0 a1 a2 ma
 obtain ⟨hU, hE⟩ := CopyOut.uniq C1.out hC
 subst hU hE
 clear hC C1
 have G := Lib.hid (stays_mach hm)
 obtain ⟨fz, gz, az, bz, rfl, -, -, -, -⟩ := hm
 go_upto_region 10 with (fail)
 generalize hWa : (w15.alloc _) = w16
 have F' := Lib.hid (((F.out.move hb).put G.out rfl).gen hWa)
 have hlt : w15.heap.size < w16.heap.size := by rw [← hWa]; simp
 clear F hb G hWa hlt
 have F := F'
 clear F'
 have q1 : (g1 == g1) = true := by simp
 have q3 : (g3 == g3) = true := by simp
 have q5 : (g5 == g5) = true := by simp
 obtain ⟨-, -, -, -, -, kc, -, -, -, -⟩ := F.out.now
 have c0 := kc.c0
 have c1 := kc.c1
 have c2 := kc.c2
 have c3 := kc.c3
 have mc := kc.mach
 clear kc
 obtain ⟨-, -, -, -, kd, -, -, -, -, -⟩ := F.out.now
 have d0 := kd.c0
 have d1 := kd.c1
 have d2 := kd.c2
 have d3 := kd.c3
 have md := kd.mach
 clear kd
 go_wp2_with fail
 refine (Same12_any C C _ _ w16 mc md).mono ?_
 rintro e w17 ⟨rfl, hb⟩
 rw [decide_eq_true rfl]
 clear c0 c1 c2 c3 mc d0 d1 d2 d3 md
 have F' := Lib.hid (F.out.move hb)
 clear F hb
 have F := F'
 clear F'
 obtain ⟨-, -, -, kp, -, -, -, -, -, -⟩ := F.out.now
 have p0 := kp.c0
 have p1 := kp.c1
 have p2 := kp.c2
 have p3 := kp.c3
 have mp := kp.mach
 clear kp
 obtain ⟨-, -, kq, -, -, -, -, -, -, -⟩ := F.out.now
 have q0 := kq.c0
 have q1 := kq.c1
 have q2 := kq.c2
 have q3 := kq.c3
 have mq := kq.mach
 clear kq
 go_wp2_with fail
 refine (Same12_any P P _ _ w17 mp mq).mono ?_
 rintro e w18 ⟨rfl, hb⟩
 rw [decide_eq_true rfl]
 clear p0 p1 p2 p3 mp q0 q1 q2 q3 mq
 have F' := Lib.hid (F.out.move hb)
 clear F hb
 have F := F'
 clear F'
 obtain ⟨-, kr, -, -, -, -, -, -, -, -⟩ := F.out.now
 have r0 := kr.c0
 have r1 := kr.c1
 have r2 := kr.c2
 have r3 := kr.c3
 have mr := kr.mach
 clear kr
 obtain ⟨kz, -, -, -, -, -, -, -, -, -⟩ := F.out.now
 have z0 := kz.c0
 have z1 := kz.c1
 have z2 := kz.c2
 have z3 := kz.c3
 have mz := kz.mach
 clear kz
 go_wp2_with fail
 refine (Same12_any R R _ _ w18 mr mz).mono ?_
 rintro e w19 ⟨rfl, hb⟩
 rw [decide_eq_true rfl]
 clear r0 r1 r2 r3 mr z0 z1 z2 z3 mz
 have F' := Lib.hid (F.out.move hb)
 clear F hb
 have F := F'
 clear F'
 obtain ⟨-, -, -, -, -, -, -, -, -, hbw⟩ := F.out.now
 go_wp2
 go_ret
 exact ⟨rfl, hbw⟩
end Go.Proofs.YtfihjpffjdnahaaGreatDoor
