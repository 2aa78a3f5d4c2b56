/- Walk: the law ComposeInverts. -/
import Derived.Test.YtgaldlecnfekaaaGreatDoorEH
import Derived.Test.YtgaldlecnfekaaaGreatDoorV1
namespace Go.Proofs.YtgaldlecnfekaaaGreatDoor
open Go.RowKit Classical

set_option maxRecDepth 100000 in
set_option maxHeartbeats 4000000 in
theorem inverts_any (M : Mach) (vm : Value) (N : Mach) (vn : Value) (x : ByteArray) (w : World) (hm : MachAt w w.heap.size vm M) (hn : MachAt w w.heap.size vn N) (hx : x.size ≤ maxLen) :
    Calls Tryz.prog 8 #[vm, vn, .string x] w fun e w' => e = .returned (.bool true) ∧ Below w.heap.size w w' := by
  have Hm := Lib.hid (stays_mach hm)
  obtain ⟨fm, gm, am, bm, rfl, -, -, -, -⟩ := hm
  have Hn := Lib.hid (stays_mach hn)
  obtain ⟨fn, gn, an, bn, rfl, -, -, -, -⟩ := hn
  go_enter Tryz.func8, Tryz.ntmps8
  go_wp2_with fail
  generalize hW0 : ((w.alloc _).alloc _) = W0
  have F := Lib.hid ((((Stays.self w).put Hm.out (b := w.heap.size) rfl).put (Hn.out.alloc _) (b := w.heap.size + 1) (by simp)).gen hW0)
  clear hW0 Hm Hn
  refine (head14_any W0).mono ?_
  rintro e w1 ⟨rfl, hb⟩
  have F' := Lib.hid (F.out.move hb)
  clear F hb
  have F := F'
  clear F'
  obtain ⟨-, km, -⟩ := F.out.now
  have m0 := km.c0
  have m1 := km.c1
  have m2 := km.c2
  have m3 := km.c3
  have mm := km.mach
  clear km
  obtain ⟨kn, -, -⟩ := F.out.now
  have n0 := kn.c0
  have n1 := kn.c1
  have n2 := kn.c2
  have n3 := kn.c3
  have mn := kn.mach
  clear kn
  go_wp2_with fail
  generalize hWa : (w1.alloc _) = w2
  have hk := ((stays_blk (Blk.new w1 _ _)).gen hWa).now
  have F' := Lib.hid ((F.out.alloc _).gen hWa)
  clear F
  have F := F'
  clear F' hWa
  obtain ⟨kn, km, -⟩ := F.out.now
  clear m0 m1 m2 m3 mm n0 n1 n2 n3 mn
  refine (few14_any [M, N] w1.heap.size 0 2 w2 (by simp) hk.lt (mrow2 hk km kn)).mono ?_
  clear hk km kn
  rintro e w3 ⟨rfl, hb⟩
  have F' := Lib.hid (F.out.move hb)
  clear F hb
  have F := F'
  clear F'
  obtain ⟨-, -, hbw⟩ := F.out.now
  by_cases hf : ¬ (∀ Q ∈ [M, N], FewM Q)
  · rw [decide_eq_false hf]
    clear hf
    go_wp2
    go_ret
    exact ⟨rfl, hbw⟩
  rw [decide_eq_true (Classical.not_not.1 hf)]
  have Few := Lib.hid (Classical.not_not.1 hf)
  clear hf hbw
  by_cases hl : 8 < x.size
  · have d1 : decide ((x.size : Int) > 8) = true := by simp; omega
    have d2 : decide (8 < (x.size : Int)) = true := by simp; omega
    obtain ⟨-, -, hbw⟩ := F.out.now
    go_wp2
    go_ret
    exact ⟨rfl, hbw⟩
  have d1 : decide ((x.size : Int) > 8) = false := by simp; omega
  have d2 : decide (8 < (x.size : Int)) = false := by simp; omega
  have hx8 : x.size ≤ 8 := by omega
  clear hl
  obtain ⟨-, km, -⟩ := F.out.now
  have m0 := km.c0
  have m1 := km.c1
  have m2 := km.c2
  have m3 := km.c3
  have mm := km.mach
  clear km
  obtain ⟨kn, -, -⟩ := F.out.now
  have n0 := kn.c0
  have n1 := kn.c1
  have n2 := kn.c2
  have n3 := kn.c3
  have mn := kn.mach
  clear kn
  go_wp2_with fail
  refine (Compose_any M N _ _ w3 mm mn).mono ?_
  rintro e w4 ⟨vc, C, e, rfl, hm, hb, hC⟩
  clear m0 m1 m2 m3 mm n0 n1 n2 n3 mn
  have C1 := Lib.hid hC
  clear hC
  have G := Lib.hid (stays_mach hm)
  obtain ⟨fc, gc, ac, bc, rfl, -, -, -, -⟩ := hm
  go_upto_region 5 with (fail)
  generalize hWa : (w4.alloc _) = w5
  have F' := Lib.hid (((F.out.move hb).put G.out rfl).gen hWa)
  have hlt : w4.heap.size < w5.heap.size := by rw [← hWa]; simp
  clear F hb G hWa hlt
  have F := F'
  clear F'
  clear d1 d2
  have hv := inverts_1 (Few.out M (by simp)) (Few.out N (by simp)) C1.out
  clear C1
  rcases hv with ⟨rfl, hM⟩ | ⟨rfl, hM, hN⟩ | ⟨rfl, hM, hN, hC⟩
  · obtain ⟨-, -, km, -⟩ := F.out.now
    have m0 := km.c0
    have m1 := km.c1
    have m2 := km.c2
    have m3 := km.c3
    have mm := km.mach
    clear km
    have hq := MValid_any M _ w5 mm
    rw [decide_eq_false hM] at hq
    have Hq := Lib.hid hq
    clear hq hM
    obtain ⟨-, -, -, hbw⟩ := F.out.now
    go_wp2_with (go_at_call 25; refine Hq.out.mono ?_; rintro e wa ⟨rfl, hb⟩)
    go_ret
    exact ⟨rfl, hbw.trans (hb.mono hbw.size)⟩
  · obtain ⟨-, -, km, -⟩ := F.out.now
    have m0 := km.c0
    have m1 := km.c1
    have m2 := km.c2
    have m3 := km.c3
    have mm := km.mach
    clear km
    go_wp2_with fail
    refine (MValid_any M _ w5 mm).mono ?_
    rintro e wa ⟨rfl, hb⟩
    rw [decide_eq_true hM]
    clear m0 m1 m2 m3 mm
    have F' := Lib.hid (F.out.move hb)
    clear F hb
    have F := F'
    clear F'
    obtain ⟨-, kn, -, -⟩ := F.out.now
    have n0 := kn.c0
    have n1 := kn.c1
    have n2 := kn.c2
    have n3 := kn.c3
    have mn := kn.mach
    clear kn
    have hq := MValid_any N _ wa mn
    rw [decide_eq_false hN] at hq
    have Hq := Lib.hid hq
    clear hq hM hN
    obtain ⟨-, -, -, hbw⟩ := F.out.now
    go_wp2_with (go_at_call 25; refine Hq.out.mono ?_; rintro e wb ⟨rfl, hb⟩)
    go_ret
    exact ⟨rfl, hbw.trans (hb.mono hbw.size)⟩
  have V := Lib.hid (And.intro hM (And.intro hN hC))
  clear hM hN hC
  go_upto_region 7 with (fail)
  obtain ⟨kc, -, -, -⟩ := F.out.now
  have c0 := kc.c0
  have c1 := kc.c1
  have c2 := kc.c2
  have c3 := kc.c3
  have mc := kc.mach
  clear kc
  go_wp2_with fail
  refine (Invert_any C _ w5 mc).mono ?_
  rintro e w6 ⟨va, A, f, rfl, hm, hb, -, hok⟩
  clear c0 c1 c2 c3 mc
  obtain ⟨rfl, hI⟩ := hok V.out.2.2.valid
  have I1 := Lib.hid hI
  clear hok hI
  have G := Lib.hid (stays_mach hm)
  obtain ⟨fa, ga, aa, ba, rfl, -, -, -, -⟩ := hm
  go_upto_region 8 with (fail)
  generalize hWa : (w6.alloc _) = w7
  have F' := Lib.hid (((F.out.move hb).put G.out rfl).gen hWa)
  have hlt : w6.heap.size < w7.heap.size := by rw [← hWa]; simp
  clear F hb G hWa hlt
  have F := F'
  clear F'
  obtain ⟨-, -, -, km, -⟩ := F.out.now
  have m0 := km.c0
  have m1 := km.c1
  have m2 := km.c2
  have m3 := km.c3
  have mm := km.mach
  clear km
  go_wp2_with fail
  refine (Invert_any M _ w7 mm).mono ?_
  rintro e w8 ⟨vp, P, g, rfl, hm, hb, -, hok⟩
  clear m0 m1 m2 m3 mm
  obtain ⟨rfl, hI⟩ := hok V.out.1
  have I2 := Lib.hid hI
  clear hok hI
  have G := Lib.hid (stays_mach hm)
  obtain ⟨fp, gp, ap, bp, rfl, -, -, -, -⟩ := hm
  go_upto_region 9 with (fail)
  generalize hWa : (w8.alloc _) = w9
  have F' := Lib.hid (((F.out.move hb).put G.out rfl).gen hWa)
  have hlt : w8.heap.size < w9.heap.size := by rw [← hWa]; simp
  clear F hb G hWa hlt
  have F := F'
  clear F'
  obtain ⟨-, -, -, kn, -, -⟩ := F.out.now
  have n0 := kn.c0
  have n1 := kn.c1
  have n2 := kn.c2
  have n3 := kn.c3
  have mn := kn.mach
  clear kn
  go_wp2_with fail
  refine (Invert_any N _ w9 mn).mono ?_
  rintro e w10 ⟨vq, Q, h, rfl, hm, hb, -, hok⟩
  clear n0 n1 n2 n3 mn
  obtain ⟨rfl, hI⟩ := hok V.out.2.1
  have I3 := Lib.hid hI
  clear hok hI
  have G := Lib.hid (stays_mach hm)
  obtain ⟨fq, gq, aq, bq, rfl, -, -, -, -⟩ := hm
  go_upto_region 10 with (fail)
  generalize hWa : (w10.alloc _) = w11
  have F' := Lib.hid (((F.out.move hb).put G.out rfl).gen hWa)
  have hlt : w10.heap.size < w11.heap.size := by rw [← hWa]; simp
  clear F hb G hWa hlt
  have F := F'
  clear F'
  obtain ⟨kq, -, -, -, -, -, -⟩ := F.out.now
  have q0 := kq.c0
  have q1 := kq.c1
  have q2 := kq.c2
  have q3 := kq.c3
  have mq := kq.mach
  clear kq
  obtain ⟨-, kp, -, -, -, -, -⟩ := F.out.now
  have p0 := kp.c0
  have p1 := kp.c1
  have p2 := kp.c2
  have p3 := kp.c3
  have mp := kp.mach
  clear kp
  go_wp2_with fail
  refine (Compose_any Q P _ _ w11 mq mp).mono ?_
  rintro e w12 ⟨vb, B, i, rfl, hm, hb, hC⟩
  clear q0 q1 q2 q3 mq p0 p1 p2 p3 mp
  obtain ⟨rfl, hC2⟩ := inverts_2 (Few.out M (by simp)) (Few.out N (by simp)) V.out.1 V.out.2.1 I2.out I3.out hC
  have C2 := Lib.hid hC2
  clear hC hC2
  have G := Lib.hid (stays_mach hm)
  obtain ⟨fb, gb, ab, bb, rfl, -, -, -, -⟩ := hm
  go_upto_region 11 with (fail)
  generalize hWa : (w12.alloc _) = w13
  have F' := Lib.hid (((F.out.move hb).put G.out rfl).gen hWa)
  have hlt : w12.heap.size < w13.heap.size := by rw [← hWa]; simp
  clear F hb G hWa hlt
  have F := F'
  clear F'
  go_upto_region 13 with (fail)
  obtain ⟨-, -, -, ka, -, -, -, -⟩ := F.out.now
  have a0 := ka.c0
  have a1 := ka.c1
  have a2 := ka.c2
  have a3 := ka.c3
  have ma := ka.mach
  clear ka
  go_wp2_with fail
  refine (Runs_any A _ x hx w13 ma).mono ?_
  rintro e w14 ⟨vr, l, j, rfl, ⟨pl, cl, rfl, hr⟩, hb, hr1⟩
  clear a0 a1 a2 a3 ma
  have F' := Lib.hid (((F.out.move hb).and (stays_row hr)).weak fun _ h => And.intro h.2 h.1)
  clear F hb hr
  have F := F'
  clear F'
  have R1 := Lib.hid hr1
  clear hr1
  go_upto_region 14 with (fail)
  obtain ⟨-, kb, -, -, -, -, -, -, -⟩ := F.out.now
  have b0 := kb.c0
  have b1 := kb.c1
  have b2 := kb.c2
  have b3 := kb.c3
  have mb := kb.mach
  clear kb
  go_wp2_with fail
  refine (Runs_any B _ x hx w14 mb).mono ?_
  rintro e w15 ⟨vr, o, k, rfl, ⟨po, co, rfl, hr⟩, hb, hr2⟩
  clear b0 b1 b2 b3 mb
  have F' := Lib.hid (((F.out.move hb).and (stays_row hr)).weak fun _ h => And.intro h.2 h.1)
  clear F hb hr
  have F := F'
  clear F'
  go_upto_region 15 with (fail)
  have hq := two_runs (by rw [bl_length]; omega) (I1.out.valid V.out.2.2.valid) C2.out.valid (fun t => composed_inverts V.out.1 V.out.2.1 V.out.2.2 I1.out I2.out I3.out C2.out) R1.out hr2
  clear V I1 I2 I3 C2 hr2 Few
  rcases hq with ⟨rfl, rfl | rfl | rfl⟩ | rfl | ⟨rfl, rfl | rfl⟩ | ⟨rfl, rfl, rfl⟩
  · obtain ⟨-, -, -, -, -, -, -, -, -, hbw⟩ := F.out.now
    go_wp2
    go_ret
    exact ⟨rfl, hbw⟩
  · obtain ⟨-, -, -, -, -, -, -, -, -, hbw⟩ := F.out.now
    go_wp2
    go_ret
    exact ⟨rfl, hbw⟩
  · obtain ⟨-, -, -, -, -, -, -, -, -, hbw⟩ := F.out.now
    go_wp2
    go_ret
    exact ⟨rfl, hbw⟩
  · obtain ⟨-, -, -, -, -, -, -, -, -, hbw⟩ := F.out.now
    go_wp2
    go_ret
    exact ⟨rfl, hbw⟩
  · obtain ⟨-, -, -, -, -, -, -, -, -, hbw⟩ := F.out.now
    go_wp2
    go_ret
    exact ⟨rfl, hbw⟩
  · obtain ⟨-, -, -, -, -, -, -, -, -, hbw⟩ := F.out.now
    go_wp2
    go_ret
    exact ⟨rfl, hbw⟩
  obtain ⟨ko, kl, -, -, -, -, -, -, -, -⟩ := F.out.now
  have hlen := runs_len R1.out
  have hq := Texts12_any l l pl po cl co (by unfold maxLen; omega) w15 kl ko
  rw [decide_eq_true rfl] at hq
  have Hq := Lib.hid hq
  clear hq kl ko
  obtain ⟨-, -, -, -, -, -, -, -, -, hbw⟩ := F.out.now
  go_wp2_with (go_at_call 24; refine Hq.out.mono ?_; rintro e w16 ⟨rfl, hb⟩)
  go_ret
  exact ⟨rfl, hbw.trans (hb.mono hbw.size)⟩
end Go.Proofs.YtgaldlecnfekaaaGreatDoor
