/- Walk: the law ComposeCopies. -/
import Derived.Test.YtgaldlecnfekaaaGreatDoorEH
import Derived.Test.YtgaldlecnfekaaaGreatDoorAB
import Derived.Deep.RegionHeld3
namespace Go.Proofs.YtgaldlecnfekaaaGreatDoor
open Go.RowKit Classical

set_option maxRecDepth 100000 in
set_option maxHeartbeats 4000000 in
theorem copies_any (A : Alph) (va : Value) (M : Mach) (vm : Value) (x : ByteArray) (w : World) (ha : AlphAt w w.heap.size va A) (hm : MachAt w w.heap.size vm M) (hx : x.size ≤ maxLen) :
    Calls Tryz.prog 9 #[va, vm, .string x] w fun e w' => e = .returned (.bool true) ∧ Below w.heap.size w w' := by
  have Ha := Lib.hid (stays_alph ha)
  obtain ⟨fa, ga, aa, ba, rfl, -, -, -, -, -, -⟩ := ha
  have Hm := Lib.hid (stays_mach hm)
  obtain ⟨fm, gm, am, bm, rfl, -, -, -, -⟩ := hm
  go_enter Tryz.func9, Tryz.ntmps9
  go_wp2_with fail
  generalize hW0 : ((w.alloc _).alloc _) = W0
  have F := Lib.hid ((((Stays.self w).putA Ha.out (b := w.heap.size) rfl).put (Hm.out.alloc _) (b := w.heap.size + 1) (by simp)).gen hW0)
  clear hW0 Ha Hm
  refine (head14_any W0).mono ?_
  rintro e w1 ⟨rfl, hb⟩
  have F' := Lib.hid (F.out.move hb)
  clear F hb
  have F := F'
  clear F'
  obtain ⟨-, ka, -⟩ := F.out.now
  have a0 := ka.c0
  have a1 := ka.c1
  have a2 := ka.c2
  have ma := ka.alph
  clear ka
  go_wp2_with fail
  refine (few10_any _ A w1 ma).mono ?_
  rintro e w2 ⟨rfl, hb⟩
  clear a0 a1 a2 ma
  have F' := Lib.hid (F.out.move hb)
  clear F hb
  have F := F'
  clear F'
  by_cases hf : ¬ Few10 A
  · rw [decide_eq_false hf]
    clear hf
    obtain ⟨-, -, hbw⟩ := F.out.now
    go_wp2
    go_ret
    exact ⟨rfl, hbw⟩
  rw [decide_eq_true (Classical.not_not.1 hf)]
  clear hf
  obtain ⟨km, -, -⟩ := F.out.now
  have m0 := km.c0
  have m1 := km.c1
  have m2 := km.c2
  have m3 := km.c3
  have mm := km.mach
  clear km
  go_wp2_with fail
  generalize hWa : (w2.alloc _) = w3
  have hk := ((stays_blk (Blk.new w2 _ _)).gen hWa).now
  have F' := Lib.hid ((F.out.alloc _).gen hWa)
  clear F
  have F := F'
  clear F' hWa
  obtain ⟨km, -, -⟩ := F.out.now
  clear m0 m1 m2 m3 mm
  refine (few14_any [M] w2.heap.size 0 1 w3 (by simp) hk.lt (mrow1 hk km)).mono ?_
  clear hk km
  rintro e w4 ⟨rfl, hb⟩
  have F' := Lib.hid (F.out.move hb)
  clear F hb
  have F := F'
  clear F'
  obtain ⟨-, -, hbw⟩ := F.out.now
  by_cases hf : ¬ (∀ Q ∈ [M], FewM Q)
  · rw [decide_eq_false hf]
    clear hf
    go_wp2
    go_ret
    exact ⟨rfl, hbw⟩
  rw [decide_eq_true (Classical.not_not.1 hf)]
  have Few := Lib.hid (Classical.not_not.1 hf)
  clear hf hbw
  by_cases hl : 20 < x.size
  · have d1 : decide ((x.size : Int) > 20) = true := by simp; omega
    have d2 : decide (20 < (x.size : Int)) = true := by simp; omega
    obtain ⟨-, -, hbw⟩ := F.out.now
    go_wp2
    go_ret
    exact ⟨rfl, hbw⟩
  have d1 : decide ((x.size : Int) > 20) = false := by simp; omega
  have d2 : decide (20 < (x.size : Int)) = false := by simp; omega
  have hx8 : x.size ≤ 20 := by omega
  clear hl
  obtain ⟨-, ka, -⟩ := F.out.now
  have a0 := ka.c0
  have a1 := ka.c1
  have a2 := ka.c2
  have ma := ka.alph
  clear ka
  go_wp2_with fail
  refine (Copy_any A _ w4 ma).mono ?_
  rintro e w5 ⟨vc, C, e, rfl, hm, hb, hC⟩
  clear a0 a1 a2 ma
  have C1 := Lib.hid hC
  clear hC
  have G := Lib.hid (stays_mach hm)
  obtain ⟨fc, gc, ac, bc, rfl, -, -, -, -⟩ := hm
  go_upto_region 5 with (fail)
  generalize hWa : (w5.alloc _) = w6
  have F' := Lib.hid (((F.out.move hb).put G.out rfl).gen hWa)
  have hlt : w5.heap.size < w6.heap.size := by rw [← hWa]; simp
  clear F hb G hWa hlt
  have F := F'
  clear F'
  clear d1 d2
  obtain ⟨-, -, ka, -⟩ := F.out.now
  have a0 := ka.c0
  have a1 := ka.c1
  have a2 := ka.c2
  have ma := ka.alph
  clear ka
  go_wp2_with fail
  refine (Read_any A _ x hx w6 ma).mono ?_
  rintro e w7 ⟨vr, rfl, -, hb⟩
  clear a0 a1 a2 ma
  have F' := Lib.hid (F.out.move hb)
  clear F hb
  have F := F'
  clear F'
  generalize hR : readA A x = R
  obtain ⟨rl, r, ro⟩ := R
  dsimp only
  have HR := Lib.hid hR
  clear hR
  go_upto_region 6 with (fail)
  rcases C1.out with ⟨hA, rfl, -⟩ | ⟨hA, rfl, hC⟩
  · have hr1 : r = 1 := by have := HR.out; unfold readA at this; rw [if_neg hA] at this; injection this with _ h; exact h.symm
    subst hr1
    have HA := Lib.hid hA
    clear hA C1
    obtain ⟨-, -, ka, -⟩ := F.out.now
    have a0 := ka.c0
    have a1 := ka.c1
    have a2 := ka.c2
    have ma := ka.alph
    clear ka
    go_wp2_with fail
    refine (AValid_any A _ w7 ma).mono ?_
    rintro e w8 ⟨rfl, hb⟩
    rw [decide_eq_false HA.out]
    clear a0 a1 a2 ma
    have F' := Lib.hid (F.out.move hb)
    clear F hb
    have F := F'
    clear F'
    obtain ⟨-, -, -, hbw⟩ := F.out.now
    go_wp2
    go_ret
    exact ⟨rfl, hbw⟩
  have hr1 : (readL A.bls (bl x)).err = r := by have := HR.out; unfold readA at this; rw [if_pos hA] at this; rw [this]
  have V := Lib.hid (And.intro hA (And.intro hC hr1))
  clear hA hC hr1 C1 HR
  obtain ⟨-, -, ka, -⟩ := F.out.now
  have a0 := ka.c0
  have a1 := ka.c1
  have a2 := ka.c2
  have ma := ka.alph
  clear ka
  go_wp2_with fail
  refine (AValid_any A _ w7 ma).mono ?_
  rintro e w8 ⟨rfl, hb⟩
  rw [decide_eq_true V.out.1]
  clear a0 a1 a2 ma
  have F' := Lib.hid (F.out.move hb)
  clear F hb
  have F := F'
  clear F'
  go_upto_region 10 with (fail)
  obtain ⟨kc, -, -, -⟩ := F.out.now
  have c0 := kc.c0
  have c1 := kc.c1
  have c2 := kc.c2
  have c3 := kc.c3
  have mc := kc.mach
  clear kc
  go_wp2_with fail
  refine (Runs_any C _ x hx w8 mc).mono ?_
  rintro e w9 ⟨vr, l, g, rfl, ⟨pl, cl, rfl, hr⟩, hb, hr1⟩
  clear c0 c1 c2 c3 mc
  have F' := Lib.hid (((F.out.move hb).and (stays_row hr)).weak fun _ h => And.intro h.2 h.1)
  clear F hb hr
  have F := F'
  clear F'
  have hv := copies_2 V.out.1 V.out.2.1 hx8 hr1
  rw [V.out.2.2] at hv
  clear hr1
  obtain ⟨rfl, hv⟩ := hv
  go_upto_region 11 with (fail)
  go_cut [101] (fun c wx => c = .bool false ∧ Below w9.heap.size w9 wx)
  case first =>
    rcases hv with ⟨rfl, rfl⟩ | ⟨hr0, rfl⟩
    · obtain ⟨kl, -, -, -, -⟩ := F.out.now
      go_wp2_with fail
      generalize hWa : (w9.alloc _) = wa
      have hb : Below w9.heap.size w9 wa := by rw [← hWa]; exact (Below.refl _ _).alloc (Nat.le_refl _) _
      have hk := ((stays_blk (Blk.new w9 _ _)).gen hWa).now
      clear hWa
      have hq := Texts12_any [x] [x] pl _ cl 1 (by simp [maxLen]) wa ((kl.below hb (Nat.le_refl _)).more hb.size) (row_of_blk (xs := strs [x]) hk)
      rw [decide_eq_true rfl] at hq
      have Hq := Lib.hid hq
      clear hq kl hk
      refine Hq.out.mono ?_
      rintro e wb ⟨rfl, hb2⟩
      have hb3 := hb.trans (hb2.mono hb.size)
      clear hb hb2 Hq
      go_wp2_with fail
      go_meet
      exact ⟨rfl, hb3⟩
    · have dr0 : (r == 0) = false := by simp [hr0]
      have cr0 : (r != 0) = true := by simp [hr0]
      go_wp2_with fail
      go_meet
      exact ⟨rfl, Below.refl _ _⟩
  obtain ⟨rfl, hcut⟩ := hcut
  have F' := Lib.hid (F.out.move hcut)
  clear F hcut hv
  have F := F'
  clear F'
  go_upto_region 13 with (fail)
  obtain ⟨-, -, km, -, -⟩ := F.out.now
  have m0 := km.c0
  have m1 := km.c1
  have m2 := km.c2
  have m3 := km.c3
  have mm := km.mach
  clear km
  obtain ⟨-, kc, -, -, -⟩ := F.out.now
  have c0 := kc.c0
  have c1 := kc.c1
  have c2 := kc.c2
  have c3 := kc.c3
  have mc := kc.mach
  clear kc
  go_wp2_with fail
  refine (Compose_any M C _ _ wc mm mc).mono ?_
  rintro e w10 ⟨vd, D, h, rfl, hm, hb, hC⟩
  clear m0 m1 m2 m3 mm c0 c1 c2 c3 mc
  have C2 := Lib.hid hC
  clear hC
  have G := Lib.hid (stays_mach hm)
  obtain ⟨fd, gd, ad, bd, rfl, -, -, -, -⟩ := hm
  go_upto_region 14 with (fail)
  generalize hWa : (w10.alloc _) = w11
  have F' := Lib.hid (((F.out.move hb).put G.out rfl).gen hWa)
  have hlt : w10.heap.size < w11.heap.size := by rw [← hWa]; simp
  clear F hb G hWa hlt
  have F := F'
  clear F'
  rcases copies_3 V.out.1 V.out.2.1 C2.out with rfl | ⟨rfl, hM⟩ | ⟨rfl, hM, hD⟩
  · obtain ⟨-, -, -, -, -, hbw⟩ := F.out.now
    go_wp2
    go_ret
    exact ⟨rfl, hbw⟩
  · obtain ⟨-, -, -, km, -, -⟩ := F.out.now
    have m0 := km.c0
    have m1 := km.c1
    have m2 := km.c2
    have m3 := km.c3
    have mm := km.mach
    clear km
    have hq := MValid_any M _ w11 mm
    rw [decide_eq_false hM] at hq
    have Hq := Lib.hid hq
    clear hq hM
    obtain ⟨-, -, -, -, -, hbw⟩ := F.out.now
    go_wp2_with (go_at_call 25; refine Hq.out.mono ?_; rintro e wz ⟨rfl, hb⟩)
    go_ret
    exact ⟨rfl, hbw.trans (hb.mono hbw.size)⟩
  have D1 := Lib.hid (And.intro hM hD)
  clear hM hD C2
  by_cases hl : 8 < x.size
  · have d1 : decide ((x.size : Int) > 8) = true := by simp; omega
    have d2 : decide (8 < (x.size : Int)) = true := by simp; omega
    obtain ⟨-, -, -, -, -, hbw⟩ := F.out.now
    go_wp2
    go_ret
    exact ⟨rfl, hbw⟩
  have d1 : decide ((x.size : Int) > 8) = false := by simp; omega
  have d2 : decide (8 < (x.size : Int)) = false := by simp; omega
  have hx9 : x.size ≤ 8 := by omega
  clear hl
  go_upto_region 18 with (fail)
  clear d1 d2
  obtain ⟨-, -, -, km, -, -⟩ := F.out.now
  have m0 := km.c0
  have m1 := km.c1
  have m2 := km.c2
  have m3 := km.c3
  have mm := km.mach
  clear km
  go_wp2_with fail
  refine (Runs_any M _ x hx w11 mm).mono ?_
  rintro e w12 ⟨vr, all, i, rfl, ⟨pall, call, rfl, hr⟩, hb, hr1⟩
  clear m0 m1 m2 m3 mm
  have F' := Lib.hid (((F.out.move hb).and (stays_row hr)).weak fun _ h => And.intro h.2 h.1)
  clear F hb hr
  have F := F'
  clear F'
  have R1 := Lib.hid hr1
  clear hr1
  go_upto_region 19 with (fail)
  obtain ⟨-, kd, -, -, -, -, -⟩ := F.out.now
  have d0 := kd.c0
  have d1 := kd.c1
  have d2 := kd.c2
  have d3 := kd.c3
  have md := kd.mach
  clear kd
  go_wp2_with fail
  refine (Runs_any D _ x hx w12 md).mono ?_
  rintro e w13 ⟨vr, kept, k, rfl, ⟨pkept, ckept, rfl, hr⟩, hb, hr2⟩
  clear d0 d1 d2 d3 md
  have F' := Lib.hid (((F.out.move hb).and (stays_row hr)).weak fun _ h => And.intro h.2 h.1)
  clear F hb hr
  have F := F'
  clear F'
  go_upto_region 20 with (fail)
  have hv := copies_4 V.out.1 D1.out.1 V.out.2.1 D1.out.2 (by rw [bl_length]; omega) R1.out hr2
  have na := runs_len R1.out
  have nk := runs_len hr2
  clear hr2
  rcases hv with rfl | rfl | ⟨rfl, rfl⟩ | ⟨rfl, rfl, h1, h2⟩
  · obtain ⟨-, -, -, -, -, -, -, hbw⟩ := F.out.now
    go_wp2
    go_ret
    exact ⟨rfl, hbw⟩
  · obtain ⟨-, -, -, -, -, -, -, hbw⟩ := F.out.now
    go_wp2
    go_ret
    exact ⟨rfl, hbw⟩
  · obtain ⟨-, -, -, -, -, -, -, hbw⟩ := F.out.now
    go_wp2
    go_ret
    exact ⟨rfl, hbw⟩
  have Hsz := Lib.hid (fun (u : ByteArray) (hu : u ∈ all) => runs_small R1.out (Few.out M (by simp)) D1.out.1 (by rw [bl_length]; omega) hu)
  have S := Lib.hid (And.intro V.out.1 (And.intro h1 h2))
  clear h1 h2 V R1 Few D1
  go_upto_region 22 with (fail)
  have FA := F
  clear F
  go_wp2_with fail
  go_loopw [21, 22] (fun c j wx => ∃ k : Nat, k ≤ all.length ∧ j = .int .i64 k ∧ c = .int .i64 (catN A all k) ∧ Below w13.heap.size w13 wx) (fun _ j _ => all.length - (intOf j).toNat)
  case atStart => exact ⟨0, Nat.zero_le _, rfl, by rw [catN_zero]; rfl, Below.refl _ _⟩
  case round =>
    obtain ⟨k, hk, rfl, rfl, hb⟩ := hrel
    obtain ⟨wo, rfl⟩ : ∃ wo : World, wo = wr := ⟨_, rfl⟩
    have F := Lib.hid (FA.out.move hb)
    have HR := Lib.hid hb
    clear hb
    by_cases hkl : k < all.length
    · obtain ⟨-, kall, -, -, -, -, ka, -⟩ := F.out.now
      have a0 := ka.c0
      have a1 := ka.c1
      have a2 := ka.c2
      obtain ⟨gx, ox, rfl, hgx, hcx⟩ := kall.strs (by omega)
      have x0 := hcx k hkl
      have hsz := Hsz.out _ (List.getElem_mem hkl)
      have hin := S.out.2.1 _ (List.getElem_mem hkl)
      have hcy := fun h => catN_yes (A := A) hkl h
      have hcn := fun h => catN_no (A := A) hkl h
      have hcl := catN_le A all k
      obtain ⟨u, hu⟩ : ∃ u, all[k] = u := ⟨_, rfl⟩
      rw [hu] at x0 hsz hin hcy hcn
      have HQ := Lib.hid (Read_any A _ u (by unfold maxLen; omega) wo.drew ka.alph)
      have hln := ka.lt
      have HI := Lib.hid (And.intro hin (And.intro hcy hcn))
      clear hcx hin hcy hcn hu ka kall
      generalize catN A all k = nc at *
      go_wp2_with fail
      go_region_held3 (fun w' => w'.cell? ⟨w.heap.size, 0, none⟩ = some (.string A.name) ∧ w'.cell? ⟨w.heap.size, 1, none⟩ = some (.slice fa A.letters.length ga) ∧ w'.cell? ⟨w.heap.size, 2, none⟩ = some (.slice aa A.small.length ba) ∧ w'.cell? ⟨gx, ox + k, none⟩ = some (.string u))
        (first | exact ⟨a0, a1, a2, x0⟩ | exact ⟨y0, y1, y2, z0⟩ | go_keep)
        (first | (go_at_call 28; refine HQ.out.mono ?_; rintro e wB ⟨vz, rfl, -, hbB⟩; have y0 := (hbB.cell (p := ⟨w.heap.size, 0, none⟩) hln).trans a0; have y1 := (hbB.cell (p := ⟨w.heap.size, 1, none⟩) hln).trans a1; have y2 := (hbB.cell (p := ⟨w.heap.size, 2, none⟩) hln).trans a2; have z0 := (hbB.cell (p := ⟨gx, ox + k, none⟩) hgx).trans x0))
      all_goals (
        have hR : readA A u = readL A.bls (bl u) := by unfold readA; rw [if_pos S.out.1]
        have hri := fun h => read_iff S.out.1 (x := bl u) h
        rw [← hR] at hri
        generalize readA A u = R at *
        obtain ⟨rl', r', ro'⟩ := R
        dsimp only at hri
        dsimp only
        have hbB2 : Below w13.heap.size w13 wB := HR.out.drew.trans (hbB.mono HR.out.size)
        have HB := Lib.hid hbB2
        have Hri := Lib.hid hri
        have FB := Lib.hid (FA.out.move hbB2)
        clear a0 a1 a2 x0 y0 y1 y2 hbB hbB2 hri hR HQ F HR
        by_cases h2 : r' = 2
        · subst h2
          have hbw := FB.out.now
          obtain ⟨-, -, -, -, -, -, -, hbw⟩ := hbw
          go_wp2
          go_ret
          exact ⟨rfl, hbw⟩
        have d2 : (r' == 2) = false := by simp [h2]
        have hri := Hri.out h2
        obtain ⟨kkept, -, -, -, -, -, -, -⟩ := FB.out.now
        by_cases h0 : r' = 0
        · subst h0
          have hc := hri.1 rfl
          have hq := has14_any kept pkept ckept u wB (by unfold maxLen; omega) kkept
          rw [decide_eq_true (HI.out.1.2 hc)] at hq
          have Hq := Lib.hid hq
          have hnx := HI.out.2.1 hc
          have Hnx := Lib.hid hnx
          clear hri hc hq hnx kkept FB d2 h2
          go_wp2_with fail
          refine Hq.out.mono ?_
          rintro e wD ⟨rfl, hwe⟩
          have hwe := hwe.symm
          subst hwe
          go_wp2
          exact ⟨⟨k + 1, by omega, by go_num, by rw [Hnx.out]; go_num, HB.out⟩, by simp [intOf]; omega⟩
        · have d0 : (r' == 0) = false := by simp [h0]
          have hc : ¬ Cat A.bls (bl u) := fun h => h0 (hri.2 h)
          have hq := has14_any kept pkept ckept u wB (by unfold maxLen; omega) kkept
          rw [decide_eq_false (fun h => hc (HI.out.1.1 h))] at hq
          have Hq := Lib.hid hq
          have hnx := HI.out.2.2 hc
          have Hnx := Lib.hid hnx
          clear hri hc hq hnx kkept FB h2
          go_wp2_with fail
          refine Hq.out.mono ?_
          rintro e wD ⟨rfl, hwe⟩
          have hwe := hwe.symm
          subst hwe
          go_wp2
          exact ⟨⟨k + 1, by omega, by go_num, by rw [Hnx.out], HB.out⟩, by simp [intOf]; omega⟩)
    · obtain rfl : k = all.length := by omega
      have hfl : catN A all all.length = kept.length := by rw [catN_all, S.out.2.2]
      rw [hfl]
      have d1 : ((kept.length : Int) == (kept.length : Int)) = true := by simp
      have hbw := F.out.now
      obtain ⟨-, -, -, -, -, -, -, hbw⟩ := hbw
      clear hkl hk hfl
      go_wp2
      go_ret
      exact ⟨rfl, hbw⟩
end Go.Proofs.YtgaldlecnfekaaaGreatDoor
