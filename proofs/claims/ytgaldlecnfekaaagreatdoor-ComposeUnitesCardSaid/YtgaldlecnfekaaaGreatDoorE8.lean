/- Walk: the law ComposeUnites. -/
import Derived.Test.YtgaldlecnfekaaaGreatDoorEH
import Derived.Test.YtgaldlecnfekaaaGreatDoorV1
import Derived.BigQuiet
import Derived.Deep.QuietTactic
import Derived.Laws.Cover1
namespace Go.Proofs.YtgaldlecnfekaaaGreatDoor
open Go.RowKit Classical

theorem sorted_less {ts : List ByteArray} (h : SortedB ts) {p : Nat} (hp : p + 1 < ts.length) : Op.bytesLess (ts[p]'(by omega)).toList ts[p + 1].toList = true := by
  rw [bytesLess_eq, decide_eq_true_eq, ByteArray.toList_eq, ByteArray.toList_eq]
  have h1 := List.pairwise_iff_getElem.1 h.1 p (p + 1) (by rw [List.length_map]; omega) (by rw [List.length_map]; omega) (by omega)
  have h2 := List.pairwise_iff_getElem.1 h.2 p (p + 1) (by rw [List.length_map]; omega) (by rw [List.length_map]; omega) (by omega)
  rw [List.getElem_map, List.getElem_map] at h1 h2
  exact (List.le_iff_lt_or_eq.1 h1).resolve_right h2

set_option maxRecDepth 100000 in
set_option maxHeartbeats 16000000 in
theorem unites_any (M : Mach) (vm : Value) (N : Mach) (vn : Value) (x : ByteArray) (w : World) (hm : MachAt w w.heap.size vm M) (hn : MachAt w w.heap.size vn N) (hx : x.size ≤ maxLen) :
    Calls Tryz.prog 6 #[vm, vn, .string x] w fun e w' => e = .returned (.bool true) ∧ Below w.heap.size w w' := by
  have Hm := Lib.hid (stays_mach hm)
  obtain ⟨fm, gm, am, bm, rfl, -, -, -, -⟩ := hm
  have Hn := Lib.hid (stays_mach hn)
  obtain ⟨fn, gn, an, bn, rfl, -, -, -, -⟩ := hn
  go_enter Tryz.func6, Tryz.ntmps6
  go_wp2_with fail
  generalize hW0 : ((w.alloc _).alloc _) = W0
  have F := Lib.hid ((((Stays.self w).put Hm.out (b := w.heap.size) rfl).put (Hn.out.alloc _) (b := w.heap.size + 1) (by simp)).gen hW0)
  clear hW0 Hm Hn
  refine (head14_any W0).mono ?_
  rintro e w1 ⟨rfl, hb⟩
  have F' := Lib.hid (F.out.move hb)
  clear F hb
  have F := F'
  clear F'
  obtain ⟨-, km, -⟩ := F.out.now
  have m0 := km.c0
  have m1 := km.c1
  have m2 := km.c2
  have m3 := km.c3
  have mm := km.mach
  clear km
  obtain ⟨kn, -, -⟩ := F.out.now
  have n0 := kn.c0
  have n1 := kn.c1
  have n2 := kn.c2
  have n3 := kn.c3
  have mn := kn.mach
  clear kn
  go_wp2_with fail
  generalize hWa : (w1.alloc _) = w2
  have hk := ((stays_blk (Blk.new w1 _ _)).gen hWa).now
  have F' := Lib.hid ((F.out.alloc _).gen hWa)
  clear F
  have F := F'
  clear F' hWa
  obtain ⟨kn, km, -⟩ := F.out.now
  clear m0 m1 m2 m3 mm n0 n1 n2 n3 mn
  refine (few14_any [M, N] w1.heap.size 0 2 w2 (by simp) hk.lt (mrow2 hk km kn)).mono ?_
  clear hk km kn
  rintro e w3 ⟨rfl, hb⟩
  have F' := Lib.hid (F.out.move hb)
  clear F hb
  have F := F'
  clear F'
  obtain ⟨-, -, hbw⟩ := F.out.now
  by_cases hf : ¬ (∀ Q ∈ [M, N], FewM Q)
  · rw [decide_eq_false hf]
    clear hf
    go_wp2
    go_ret
    exact ⟨rfl, hbw⟩
  rw [decide_eq_true (Classical.not_not.1 hf)]
  have Few := Lib.hid (Classical.not_not.1 hf)
  clear hf hbw
  by_cases hl : 8 < x.size
  · have d1 : decide ((x.size : Int) > 8) = true := by simp; omega
    have d2 : decide (8 < (x.size : Int)) = true := by simp; omega
    obtain ⟨-, -, hbw⟩ := F.out.now
    go_wp2
    go_ret
    exact ⟨rfl, hbw⟩
  have d1 : decide ((x.size : Int) > 8) = false := by simp; omega
  have d2 : decide (8 < (x.size : Int)) = false := by simp; omega
  have hx8 : x.size ≤ 8 := by omega
  clear hl
  obtain ⟨-, km, -⟩ := F.out.now
  have m0 := km.c0
  have m1 := km.c1
  have m2 := km.c2
  have m3 := km.c3
  have mm := km.mach
  clear km
  obtain ⟨kn, -, -⟩ := F.out.now
  have n0 := kn.c0
  have n1 := kn.c1
  have n2 := kn.c2
  have n3 := kn.c3
  have mn := kn.mach
  clear kn
  go_wp2_with fail
  refine (Union_any M N _ _ w3 mm mn).mono ?_
  rintro e w4 ⟨vc, C, e, rfl, hm, hb, hC⟩
  clear m0 m1 m2 m3 mm n0 n1 n2 n3 mn
  have C1 := Lib.hid hC
  clear hC
  have G := Lib.hid (stays_mach hm)
  obtain ⟨fc, gc, ac, bc, rfl, -, -, -, -⟩ := hm
  go_upto_region 5 with (fail)
  generalize hWa : (w4.alloc _) = w5
  have F' := Lib.hid (((F.out.move hb).put G.out rfl).gen hWa)
  have hlt : w4.heap.size < w5.heap.size := by rw [← hWa]; simp
  clear F hb G hWa hlt
  have F := F'
  clear F'
  clear d1 d2
  obtain ⟨-, -, km, -⟩ := F.out.now
  have m0 := km.c0
  have m1 := km.c1
  have m2 := km.c2
  have m3 := km.c3
  have mm := km.mach
  clear km
  go_wp2_with fail
  refine (Runs_any M _ x hx w5 mm).mono ?_
  rintro e w6 ⟨vr, a, f, rfl, ⟨pa, ca, rfl, hr⟩, hb, hr1⟩
  clear m0 m1 m2 m3 mm
  have F' := Lib.hid (((F.out.move hb).and (stays_row hr)).weak fun _ h => And.intro h.2 h.1)
  clear F hb hr
  have F := F'
  clear F'
  have R1 := Lib.hid hr1
  clear hr1
  go_upto_region 6 with (fail)
  obtain ⟨-, -, kn, -, -⟩ := F.out.now
  have n0 := kn.c0
  have n1 := kn.c1
  have n2 := kn.c2
  have n3 := kn.c3
  have mn := kn.mach
  clear kn
  go_wp2_with fail
  refine (Runs_any N _ x hx w6 mn).mono ?_
  rintro e w7 ⟨vr, b, g, rfl, ⟨pb, cb, rfl, hr⟩, hb, hr2⟩
  clear n0 n1 n2 n3 mn
  have F' := Lib.hid (((F.out.move hb).and (stays_row hr)).weak fun _ h => And.intro h.2 h.1)
  clear F hb hr
  have F := F'
  clear F'
  have R2 := Lib.hid hr2
  clear hr2
  go_upto_region 7 with (fail)
  have hv := unites_1 (by rw [bl_length]; omega) (Few.out M (by simp)) (Few.out N (by simp)) C1.out R1.out R2.out
  clear C1 Few
  rcases hv with ⟨rfl, rfl⟩ | ⟨hf1, rfl, rfl⟩ | ⟨hf1, hg1, rfl, hv⟩
  · obtain ⟨-, -, -, -, -, hbw⟩ := F.out.now
    go_wp2
    go_ret
    exact ⟨rfl, hbw⟩
  · have df1 : (f == 1) = false := by simp [hf1]
    have cf1 : (f != 1) = true := by simp [hf1]
    obtain ⟨-, -, -, -, -, hbw⟩ := F.out.now
    go_wp2
    go_ret
    exact ⟨rfl, hbw⟩
  have V := Lib.hid hv
  clear hv
  have df1 : (f == 1) = false := by simp [hf1]
  have cf1 : (f != 1) = true := by simp [hf1]
  have dg1 : (g == 1) = false := by simp [hg1]
  have cg1 : (g != 1) = true := by simp [hg1]
  have H1 := Lib.hid (And.intro hf1 hg1)
  clear hf1 hg1
  go_upto_region 9 with (fail)
  obtain ⟨-, -, kc, -, -, -⟩ := F.out.now
  have c0 := kc.c0
  have c1 := kc.c1
  have c2 := kc.c2
  have c3 := kc.c3
  have mc := kc.mach
  clear kc
  go_wp2_with fail
  refine (Runs_any C _ x hx w7 mc).mono ?_
  rintro e w8 ⟨vr, all, h, rfl, ⟨pall, call, rfl, hr⟩, hb, hr3⟩
  clear c0 c1 c2 c3 mc
  have F' := Lib.hid (((F.out.move hb).and (stays_row hr)).weak fun _ h => And.intro h.2 h.1)
  clear F hb hr
  have F := F'
  clear F'
  have hv := unites_2 (by rw [bl_length]; omega) V.out.1 V.out.2.1 V.out.2.2.1 V.out.2.2.2 R1.out R2.out hr3
  have na := runs_len R1.out
  have nb := runs_len R2.out
  have nc := runs_len hr3
  clear hr3 V R1 R2
  rcases hv with ⟨rfl, rfl⟩ | ⟨hf12, rfl, rfl⟩ | ⟨hf12, hg12, rfl⟩ | ⟨rfl, rfl, rfl, hs, hm⟩
  · obtain ⟨-, -, -, -, -, -, hbw⟩ := F.out.now
    go_wp2
    go_ret
    exact ⟨rfl, hbw⟩
  · have df12 : (f == 12) = false := by simp [hf12]
    have cf12 : (f != 12) = true := by simp [hf12]
    obtain ⟨-, -, -, -, -, -, hbw⟩ := F.out.now
    go_wp2
    go_ret
    exact ⟨rfl, hbw⟩
  · have df12 : (f == 12) = false := by simp [hf12]
    have cf12 : (f != 12) = true := by simp [hf12]
    have dg12 : (g == 12) = false := by simp [hg12]
    have cg12 : (g != 12) = true := by simp [hg12]
    by_cases hf0 : f = 0
    · by_cases hg0 : g = 0
      · subst hf0 hg0
        obtain ⟨-, -, -, -, -, -, hbw⟩ := F.out.now
        go_wp2
        go_ret
        exact ⟨rfl, hbw⟩
      · subst hf0
        have dg0 : (g == 0) = false := by simp [hg0]
        have cg0 : (g != 0) = true := by simp [hg0]
        obtain ⟨-, -, -, -, -, -, hbw⟩ := F.out.now
        go_wp2
        go_ret
        exact ⟨rfl, hbw⟩
    · have df0 : (f == 0) = false := by simp [hf0]
      have cf0 : (f != 0) = true := by simp [hf0]
      obtain ⟨-, -, -, -, -, -, hbw⟩ := F.out.now
      go_wp2
      go_ret
      exact ⟨rfl, hbw⟩
  have S := Lib.hid (And.intro hs hm)
  clear hs hm df1 cf1 dg1 cg1 H1
  go_upto_region 16 with (fail)
  have FA := F
  clear F
  go_wp2_with fail
  go_loopw [16] (fun sx wx => ∃ k : Nat, k ≤ all.length ∧ sx = .int .i64 k ∧ Below w8.heap.size w8 wx) (fun sx _ => all.length - (intOf sx).toNat)
  case atStart => exact ⟨0, Nat.zero_le _, rfl, Below.refl _ _⟩
  case round =>
    obtain ⟨k, hk, rfl, hb⟩ := hrel
    have F := Lib.hid (FA.out.move hb)
    have HB := Lib.hid hb
    clear hb
    by_cases hkl : k < all.length
    · have hin := (S.out.2 all[k]).1 (List.getElem_mem hkl)
      obtain ⟨kall, kb, ka, -, -, -, -⟩ := F.out.now
      obtain ⟨b1, o1, rfl, -, hc⟩ := kall.strs (by omega)
      have x0 := hc k hkl
      have HP := Lib.hid (fun (p : Nat) (hp : p + 1 < all.length) => And.intro (hc p (by omega)) (sorted_less S.out.1 hp))
      obtain ⟨t, ht⟩ : ∃ t, all[k] = t := ⟨_, rfl⟩
      rw [ht] at x0 hin
      have hha : ∀ n, Calls Tryz.prog 23 #[.slice pa a.length ca, .string t] (wr.drewN n) fun e w' => e = .returned (.bool (decide (t ∈ a))) ∧ w' = wr.drewN n := fun n => has14_any a pa ca t (wr.drewN n) (by unfold maxLen; omega) (ka.drewN n)
      have hhb : ∀ n, Calls Tryz.prog 23 #[.slice pb b.length cb, .string t] (wr.drewN n) fun e w' => e = .returned (.bool (decide (t ∈ b))) ∧ w' = wr.drewN n := fun n => has14_any b pb cb t (wr.drewN n) (by unfold maxLen; omega) (kb.drewN n)
      by_cases h1 : t ∈ a
      · simp only [decide_eq_true h1] at hha
        have HA := Lib.hid hha
        have HBB := Lib.hid hhb
        clear hha hhb ka kb kall hc hin
        rcases Nat.eq_zero_or_pos k with hk0 | hk0
        · have d0 : decide (0 < k) = false := decide_eq_false (by omega)
          clear HP ht hk0
          go_wp2_with fail
          go_quiet ((go_at_call 23; first | with_reducible exact Calls.quiet_of_same (HA.out _) | with_reducible exact Calls.quiet_of_same (HBB.out _)))
          go_wp2
          exact ⟨⟨k + 1, by omega, by go_num, below_dn HB.out _⟩, by simp [intOf]; omega⟩
        · obtain ⟨p, rfl⟩ : ∃ p, k = p + 1 := ⟨k - 1, by omega⟩
          obtain ⟨y0, hlt⟩ := HP.out p hkl
          obtain ⟨u, hu⟩ : ∃ u, all[p] = u := ⟨_, rfl⟩
          rw [hu] at y0
          rw [hu, ht] at hlt
          have d1 : decide ((0 : Int) < (p : Int) + 1) = true := decide_eq_true (by omega)
          have hwp : IntKind.i64.wrap (p : Int) = p := IntWalk.i64_in _ (by omega)
          have hps : p < all.length := by omega
          clear HP ht hu hk0
          go_wp2_with fail
          go_quiet ((go_at_call 23; first | with_reducible exact Calls.quiet_of_same (HA.out _) | with_reducible exact Calls.quiet_of_same (HBB.out _)))
          go_wp2
          exact ⟨⟨p + 1 + 1, by omega, by go_num, below_dn HB.out _⟩, by simp [intOf]; omega⟩
      · have h2 : t ∈ b := hin.resolve_left h1
        simp only [decide_eq_false h1] at hha
        simp only [decide_eq_true h2] at hhb
        clear h2
        have HA := Lib.hid hha
        have HBB := Lib.hid hhb
        clear hha hhb ka kb kall hc hin
        rcases Nat.eq_zero_or_pos k with hk0 | hk0
        · have d0 : decide (0 < k) = false := decide_eq_false (by omega)
          clear HP ht hk0
          go_wp2_with fail
          go_quiet ((go_at_call 23; first | with_reducible exact Calls.quiet_of_same (HA.out _) | with_reducible exact Calls.quiet_of_same (HBB.out _)))
          go_wp2
          exact ⟨⟨k + 1, by omega, by go_num, below_dn HB.out _⟩, by simp [intOf]; omega⟩
        · obtain ⟨p, rfl⟩ : ∃ p, k = p + 1 := ⟨k - 1, by omega⟩
          obtain ⟨y0, hlt⟩ := HP.out p hkl
          obtain ⟨u, hu⟩ : ∃ u, all[p] = u := ⟨_, rfl⟩
          rw [hu] at y0
          rw [hu, ht] at hlt
          have d1 : decide ((0 : Int) < (p : Int) + 1) = true := decide_eq_true (by omega)
          have hwp : IntKind.i64.wrap (p : Int) = p := IntWalk.i64_in _ (by omega)
          have hps : p < all.length := by omega
          clear HP ht hu hk0
          go_wp2_with fail
          go_quiet ((go_at_call 23; first | with_reducible exact Calls.quiet_of_same (HA.out _) | with_reducible exact Calls.quiet_of_same (HBB.out _)))
          go_wp2
          exact ⟨⟨p + 1 + 1, by omega, by go_num, below_dn HB.out _⟩, by simp [intOf]; omega⟩
    · obtain rfl : k = all.length := by omega
      clear F hkl hk
      go_wp2_with fail
      obtain ⟨wo, rfl⟩ : ∃ wo : World, wo = wr := ⟨_, rfl⟩
      go_loopw [17] (fun sx wx => ∃ k : Nat, k ≤ a.length ∧ sx = .int .i64 k ∧ Below w8.heap.size w8 wx) (fun sx _ => a.length - (intOf sx).toNat)
      case atStart => exact ⟨0, Nat.zero_le _, rfl, HB.out⟩
      case round =>
        obtain ⟨k, hk, rfl, hb⟩ := hrel
        have F := Lib.hid (FA.out.move hb)
        have HB := Lib.hid hb
        clear hb
        by_cases hkl : k < a.length
        · have hin := (S.out.2 a[k]).2 (.inl (List.getElem_mem hkl))
          obtain ⟨kall, -, ka, -, -, -, -⟩ := F.out.now
          obtain ⟨b1, o1, rfl, -, hc⟩ := ka.strs (by omega)
          have x0 := hc k hkl
          obtain ⟨t, ht⟩ : ∃ t, a[k] = t := ⟨_, rfl⟩
          rw [ht] at x0 hin
          have hq := has14_any all pall call t wr (by unfold maxLen; omega) kall
          rw [decide_eq_true hin] at hq
          have Hq := Lib.hid hq
          clear hq hin ht hc kall
          go_wp2_with fail
          refine Hq.out.mono ?_
          rintro e w9 ⟨rfl, rfl⟩
          go_wp2
          exact ⟨⟨k + 1, by omega, by go_num, HB.out⟩, by simp [intOf]; omega⟩
        · obtain rfl : k = a.length := by omega
          clear F hkl hk
          go_wp2_with fail
          obtain ⟨wo, rfl⟩ : ∃ wo : World, wo = wr := ⟨_, rfl⟩
          go_loopw [18] (fun sx wx => ∃ k : Nat, k ≤ b.length ∧ sx = .int .i64 k ∧ Below w8.heap.size w8 wx) (fun sx _ => b.length - (intOf sx).toNat)
          case atStart => exact ⟨0, Nat.zero_le _, rfl, HB.out⟩
          case round =>
            obtain ⟨k, hk, rfl, hb⟩ := hrel
            have F := Lib.hid (FA.out.move hb)
            have HB := Lib.hid hb
            clear hb
            by_cases hkl : k < b.length
            · have hin := (S.out.2 b[k]).2 (.inr (List.getElem_mem hkl))
              obtain ⟨kall, kb, -, -, -, -, -⟩ := F.out.now
              obtain ⟨b1, o1, rfl, -, hc⟩ := kb.strs (by omega)
              have x0 := hc k hkl
              obtain ⟨t, ht⟩ : ∃ t, b[k] = t := ⟨_, rfl⟩
              rw [ht] at x0 hin
              have hq := has14_any all pall call t wr (by unfold maxLen; omega) kall
              rw [decide_eq_true hin] at hq
              have Hq := Lib.hid hq
              clear hq hin ht hc kall
              go_wp2_with fail
              refine Hq.out.mono ?_
              rintro e w9 ⟨rfl, rfl⟩
              go_wp2
              exact ⟨⟨k + 1, by omega, by go_num, HB.out⟩, by simp [intOf]; omega⟩
            · obtain rfl : k = b.length := by omega
              clear F hkl hk
              have hbw := FA.out.now
              obtain ⟨-, -, -, -, -, -, hbw⟩ := hbw
              have hbz := hbw.trans (HB.out.mono hbw.size)
              go_wp2
              go_ret
              exact ⟨rfl, hbz⟩
end Go.Proofs.YtgaldlecnfekaaaGreatDoor
