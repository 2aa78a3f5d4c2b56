/- Walk: the law ComposeThree. -/
import Derived.Test.YtgaldlecnfekaaaGreatDoorEH
import Derived.Test.YtgaldlecnfekaaaGreatDoorV1
namespace Go.Proofs.YtgaldlecnfekaaaGreatDoor
open Go.RowKit Classical

set_option maxRecDepth 100000 in
set_option maxHeartbeats 4000000 in
theorem three_any (K : Mach) (vk : Value) (M : Mach) (vm : Value) (N : Mach) (vn : Value) (x : ByteArray) (w : World) (hk : MachAt w w.heap.size vk K) (hm : MachAt w w.heap.size vm M) (hn : MachAt w w.heap.size vn N) (hx : x.size ≤ maxLen) :
    Calls Tryz.prog 5 #[vk, vm, vn, .string x] w fun e w' => e = .returned (.bool true) ∧ Below w.heap.size w w' := by
  have Hk := Lib.hid (stays_mach hk)
  obtain ⟨fk, gk, ak, bk, rfl, -, -, -, -⟩ := hk
  have Hm := Lib.hid (stays_mach hm)
  obtain ⟨fm, gm, am, bm, rfl, -, -, -, -⟩ := hm
  have Hn := Lib.hid (stays_mach hn)
  obtain ⟨fn, gn, an, bn, rfl, -, -, -, -⟩ := hn
  go_enter Tryz.func5, Tryz.ntmps5
  go_wp2_with fail
  generalize hW0 : (((w.alloc _).alloc _).alloc _) = W0
  have F := Lib.hid (((((Stays.self w).put Hk.out (b := w.heap.size) rfl).put (Hm.out.alloc _) (b := w.heap.size + 1) (by simp)).put ((Hn.out.alloc _).alloc _) (b := w.heap.size + 2) (by simp)).gen hW0)
  clear hW0 Hk Hm Hn
  refine (head14_any W0).mono ?_
  rintro e w1 ⟨rfl, hb⟩
  have F' := Lib.hid (F.out.move hb)
  clear F hb
  have F := F'
  clear F'
  obtain ⟨-, -, kk, -⟩ := F.out.now
  have k0 := kk.c0
  have k1 := kk.c1
  have k2 := kk.c2
  have k3 := kk.c3
  have mk := kk.mach
  clear kk
  obtain ⟨-, km, -, -⟩ := F.out.now
  have m0 := km.c0
  have m1 := km.c1
  have m2 := km.c2
  have m3 := km.c3
  have mm := km.mach
  clear km
  obtain ⟨kn, -, -, -⟩ := F.out.now
  have n0 := kn.c0
  have n1 := kn.c1
  have n2 := kn.c2
  have n3 := kn.c3
  have mn := kn.mach
  clear kn
  go_wp2_with fail
  generalize hWa : (w1.alloc _) = w2
  have hk := ((stays_blk (Blk.new w1 _ _)).gen hWa).now
  have F' := Lib.hid ((F.out.alloc _).gen hWa)
  clear F
  have F := F'
  clear F' hWa
  obtain ⟨kn, km, kk, -⟩ := F.out.now
  clear k0 k1 k2 k3 mk m0 m1 m2 m3 mm n0 n1 n2 n3 mn
  refine (few14_any [K, M, N] w1.heap.size 0 3 w2 (by simp) hk.lt (mrow3 hk kk km kn)).mono ?_
  clear hk kk km kn
  rintro e w3 ⟨rfl, hb⟩
  have F' := Lib.hid (F.out.move hb)
  clear F hb
  have F := F'
  clear F'
  obtain ⟨-, -, -, hbw⟩ := F.out.now
  by_cases hf : ¬ (∀ Q ∈ [K, M, N], FewM Q)
  · rw [decide_eq_false hf]
    clear hf
    go_wp2
    go_ret
    exact ⟨rfl, hbw⟩
  rw [decide_eq_true (Classical.not_not.1 hf)]
  have Few := Lib.hid (Classical.not_not.1 hf)
  clear hf hbw
  by_cases hl : 8 < x.size
  · have d1 : decide ((x.size : Int) > 8) = true := by simp; omega
    have d2 : decide (8 < (x.size : Int)) = true := by simp; omega
    obtain ⟨-, -, -, hbw⟩ := F.out.now
    go_wp2
    go_ret
    exact ⟨rfl, hbw⟩
  have d1 : decide ((x.size : Int) > 8) = false := by simp; omega
  have d2 : decide (8 < (x.size : Int)) = false := by simp; omega
  have hx8 : x.size ≤ 8 := by omega
  clear hl
  obtain ⟨-, -, kk, -⟩ := F.out.now
  have k0 := kk.c0
  have k1 := kk.c1
  have k2 := kk.c2
  have k3 := kk.c3
  have mk := kk.mach
  clear kk
  obtain ⟨-, km, -, -⟩ := F.out.now
  have m0 := km.c0
  have m1 := km.c1
  have m2 := km.c2
  have m3 := km.c3
  have mm := km.mach
  clear km
  go_wp2_with fail
  refine (Compose_any K M _ _ w3 mk mm).mono ?_
  rintro e w4 ⟨va, A, e, rfl, hm, hb, hC⟩
  clear k0 k1 k2 k3 mk m0 m1 m2 m3 mm
  have C1 := Lib.hid hC
  clear hC
  have G := Lib.hid (stays_mach hm)
  obtain ⟨fa, ga, aa, ba, rfl, -, -, -, -⟩ := hm
  go_upto_region 5 with (fail)
  generalize hWa : (w4.alloc _) = w5
  have F' := Lib.hid (((F.out.move hb).put G.out rfl).gen hWa)
  have hlt : w4.heap.size < w5.heap.size := by rw [← hWa]; simp
  clear F hb G hWa hlt
  have F := F'
  clear F'
  clear d1 d2
  obtain ⟨ka, -, -, -, -⟩ := F.out.now
  have a0 := ka.c0
  have a1 := ka.c1
  have a2 := ka.c2
  have a3 := ka.c3
  have ma := ka.mach
  clear ka
  obtain ⟨-, kn, -, -, -⟩ := F.out.now
  have n0 := kn.c0
  have n1 := kn.c1
  have n2 := kn.c2
  have n3 := kn.c3
  have mn := kn.mach
  clear kn
  go_wp2_with fail
  refine (Compose_any A N _ _ w5 ma mn).mono ?_
  rintro e w6 ⟨vb, B, f, rfl, hm, hb, hC⟩
  clear a0 a1 a2 a3 ma n0 n1 n2 n3 mn
  have C2 := Lib.hid hC
  clear hC
  have G := Lib.hid (stays_mach hm)
  obtain ⟨fb, gb, ab, bb, rfl, -, -, -, -⟩ := hm
  go_upto_region 6 with (fail)
  generalize hWa : (w6.alloc _) = w7
  have F' := Lib.hid (((F.out.move hb).put G.out rfl).gen hWa)
  have hlt : w6.heap.size < w7.heap.size := by rw [← hWa]; simp
  clear F hb G hWa hlt
  have F := F'
  clear F'
  obtain ⟨-, -, -, km, -, -⟩ := F.out.now
  have m0 := km.c0
  have m1 := km.c1
  have m2 := km.c2
  have m3 := km.c3
  have mm := km.mach
  clear km
  obtain ⟨-, -, kn, -, -, -⟩ := F.out.now
  have n0 := kn.c0
  have n1 := kn.c1
  have n2 := kn.c2
  have n3 := kn.c3
  have mn := kn.mach
  clear kn
  go_wp2_with fail
  refine (Compose_any M N _ _ w7 mm mn).mono ?_
  rintro e w8 ⟨vc, C, g, rfl, hm, hb, hC⟩
  clear m0 m1 m2 m3 mm n0 n1 n2 n3 mn
  have C3 := Lib.hid hC
  clear hC
  have G := Lib.hid (stays_mach hm)
  obtain ⟨fc, gc, ac, bc, rfl, -, -, -, -⟩ := hm
  go_upto_region 7 with (fail)
  generalize hWa : (w8.alloc _) = w9
  have F' := Lib.hid (((F.out.move hb).put G.out rfl).gen hWa)
  have hlt : w8.heap.size < w9.heap.size := by rw [← hWa]; simp
  clear F hb G hWa hlt
  have F := F'
  clear F'
  obtain ⟨-, -, -, -, -, kk, -⟩ := F.out.now
  have k0 := kk.c0
  have k1 := kk.c1
  have k2 := kk.c2
  have k3 := kk.c3
  have mk := kk.mach
  clear kk
  obtain ⟨kc, -, -, -, -, -, -⟩ := F.out.now
  have c0 := kc.c0
  have c1 := kc.c1
  have c2 := kc.c2
  have c3 := kc.c3
  have mc := kc.mach
  clear kc
  go_wp2_with fail
  refine (Compose_any K C _ _ w9 mk mc).mono ?_
  rintro e w10 ⟨vd, D, h, rfl, hm, hb, hC⟩
  clear k0 k1 k2 k3 mk c0 c1 c2 c3 mc
  have C4 := Lib.hid hC
  clear hC
  have G := Lib.hid (stays_mach hm)
  obtain ⟨fd, gd, ad, bd, rfl, -, -, -, -⟩ := hm
  go_upto_region 8 with (fail)
  generalize hWa : (w10.alloc _) = w11
  have F' := Lib.hid (((F.out.move hb).put G.out rfl).gen hWa)
  have hlt : w10.heap.size < w11.heap.size := by rw [← hWa]; simp
  clear F hb G hWa hlt
  have F := F'
  clear F'
  have hv := three_1 (Few.out K (by simp)) (Few.out M (by simp)) (Few.out N (by simp)) C1.out C2.out C3.out C4.out
  clear C1 C2 C3 C4
  rcases hv with ⟨rfl, rfl, rfl⟩ | ⟨rfl, rfl, rfl⟩ | ⟨rfl, rfl, rfl | rfl⟩ | ⟨rfl, rfl, rfl, rfl⟩ | ⟨rfl, rfl, rfl, rfl, hv, h1, h2, h3, h4⟩
  · obtain ⟨-, -, -, -, -, -, -, hbw⟩ := F.out.now
    go_wp2
    go_ret
    exact ⟨rfl, hbw⟩
  · obtain ⟨-, -, -, -, -, -, -, hbw⟩ := F.out.now
    go_wp2
    go_ret
    exact ⟨rfl, hbw⟩
  · obtain ⟨-, -, -, -, -, -, -, hbw⟩ := F.out.now
    go_wp2
    go_ret
    exact ⟨rfl, hbw⟩
  · obtain ⟨-, -, -, -, -, -, -, hbw⟩ := F.out.now
    go_wp2
    go_ret
    exact ⟨rfl, hbw⟩
  · obtain ⟨-, -, -, -, -, -, -, hbw⟩ := F.out.now
    go_wp2
    go_ret
    exact ⟨rfl, hbw⟩
  have V := Lib.hid (And.intro hv (And.intro h1 (And.intro h2 (And.intro h3 h4))))
  clear hv h1 h2 h3 h4
  go_upto_region 10 with (fail)
  obtain ⟨-, -, kb, -, -, -, -, -⟩ := F.out.now
  have b0 := kb.c0
  have b1 := kb.c1
  have b2 := kb.c2
  have b3 := kb.c3
  have mb := kb.mach
  clear kb
  go_wp2_with fail
  refine (Runs_any B _ x hx w11 mb).mono ?_
  rintro e w12 ⟨vr, l, i, rfl, ⟨pl, cl, rfl, hr⟩, hb, hr1⟩
  clear b0 b1 b2 b3 mb
  have F' := Lib.hid (((F.out.move hb).and (stays_row hr)).weak fun _ h => And.intro h.2 h.1)
  clear F hb hr
  have F := F'
  clear F'
  have R1 := Lib.hid hr1
  clear hr1
  go_upto_region 11 with (fail)
  obtain ⟨-, kd, -, -, -, -, -, -, -⟩ := F.out.now
  have d0 := kd.c0
  have d1 := kd.c1
  have d2 := kd.c2
  have d3 := kd.c3
  have md := kd.mach
  clear kd
  go_wp2_with fail
  refine (Runs_any D _ x hx w12 md).mono ?_
  rintro e w13 ⟨vr, o, j, rfl, ⟨po, co, rfl, hr⟩, hb, hr2⟩
  clear d0 d1 d2 d3 md
  have F' := Lib.hid (((F.out.move hb).and (stays_row hr)).weak fun _ h => And.intro h.2 h.1)
  clear F hb hr
  have F := F'
  clear F'
  go_upto_region 12 with (fail)
  have hq := two_runs (by rw [bl_length]; omega) V.out.2.2.1.valid V.out.2.2.2.2.valid (fun t => composed_three V.out.1.1 V.out.1.2.1 V.out.1.2.2 V.out.2.1 V.out.2.2.1 V.out.2.2.2.1 V.out.2.2.2.2) R1.out hr2
  clear V hr2 Few
  rcases hq with ⟨rfl, rfl | rfl | rfl⟩ | rfl | ⟨rfl, rfl | rfl⟩ | ⟨rfl, rfl, rfl⟩
  · obtain ⟨-, -, -, -, -, -, -, -, -, hbw⟩ := F.out.now
    go_wp2
    go_ret
    exact ⟨rfl, hbw⟩
  · obtain ⟨-, -, -, -, -, -, -, -, -, hbw⟩ := F.out.now
    go_wp2
    go_ret
    exact ⟨rfl, hbw⟩
  · obtain ⟨-, -, -, -, -, -, -, -, -, hbw⟩ := F.out.now
    go_wp2
    go_ret
    exact ⟨rfl, hbw⟩
  · obtain ⟨-, -, -, -, -, -, -, -, -, hbw⟩ := F.out.now
    go_wp2
    go_ret
    exact ⟨rfl, hbw⟩
  · obtain ⟨-, -, -, -, -, -, -, -, -, hbw⟩ := F.out.now
    go_wp2
    go_ret
    exact ⟨rfl, hbw⟩
  · obtain ⟨-, -, -, -, -, -, -, -, -, hbw⟩ := F.out.now
    go_wp2
    go_ret
    exact ⟨rfl, hbw⟩
  obtain ⟨ko, kl, -, -, -, -, -, -, -, -⟩ := F.out.now
  have hlen := runs_len R1.out
  have hq := Texts12_any l l pl po cl co (by unfold maxLen; omega) w13 kl ko
  rw [decide_eq_true rfl] at hq
  have Hq := Lib.hid hq
  clear hq kl ko
  obtain ⟨-, -, -, -, -, -, -, -, -, hbw⟩ := F.out.now
  go_wp2_with (go_at_call 24; refine Hq.out.mono ?_; rintro e w14 ⟨rfl, hb⟩)
  go_ret
  exact ⟨rfl, hbw.trans (hb.mono hbw.size)⟩
end Go.Proofs.YtgaldlecnfekaaaGreatDoor
