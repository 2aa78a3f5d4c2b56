/- Walk: gazetteerref14.Compose (printed by mkc.py). -/
import Derived.Test.YtfihjpffjdnahaaGreatDoorEB
import Derived.Deep.AppendLies
namespace Go.Proofs.YtfihjpffjdnahaaGreatDoor
open Go.RowKit Classical
open Go.Shelf
attribute [local go_sem] undef_bool undef_bool'

set_option maxRecDepth 100000 in
set_option maxHeartbeats 16000000 in
theorem RCompose_any (M N : Mach) (fM : FewM M) (fN : FewM N) (v u : Value) (w : World) (hm : MachAt w w.heap.size v M) (hn : MachAt w w.heap.size u N) :
  Calls Tryz.prog 8 #[v, u] w (RCompPost M N w) := by
 have HFew := Lib.hid (And.intro fM fN)
 clear fM fN
 have Hm := Lib.hid (stays_mach hm)
 obtain ⟨fm, gm, am, bm, rfl, -, -, -, -⟩ := hm
 have Hn := Lib.hid (stays_mach hn)
 obtain ⟨fn, gn, an, bn, rfl, -, -, -, -⟩ := hn
 obtain ⟨ja, hja1, hja2, hja3, hja4⟩ := info_parts info_arc
 go_enter Tryz.func8, Tryz.ntmps8
 go_upto_region 1 with (fail)
 generalize hW0 : (((w.alloc _).alloc _).alloc _) = W0
 have kR : Blk W0 (w.heap.size + 2) #[.int .i64 0, .int .i64 0, .slice none 0 0, .slice none 0 0] 25 := by
  rw [← hW0]
  have := Blk.new ((w.alloc (.cells #[.int .i64 M.states, .int .i64 M.start, .slice fm M.final.length gm, .slice am M.arcs.length bm] 25)).alloc (.cells #[.int .i64 N.states, .int .i64 N.start, .slice fn N.final.length gn, .slice an N.arcs.length bn] 25)) #[.int .i64 0, .int .i64 0, .slice none 0 0, .slice none 0 0] 25
  simpa using this
 have F := Lib.hid ((((((Stays.self w).put Hm.out (b := w.heap.size) rfl).put (Hn.out.alloc _) (b := w.heap.size + 1) (by simp)).alloc _).gen hW0).and (stays_blk kR))
 clear hW0 Hm Hn kR
 obtain ⟨⟨-, km, -⟩, -⟩ := F.out.now
 have m0 := km.c0
 have m1 := km.c1
 have m2 := km.c2
 have m3 := km.c3
 have mm := km.mach
 clear km
 go_wp2_with fail
 refine (Valid12_any M _ W0 mm).mono ?_
 rintro e w1 ⟨rfl, hb⟩
 clear m0 m1 m2 m3 mm
 have F' := Lib.hid (F.out.move hb)
 clear F hb
 have F := F'
 clear F'
 by_cases hvM : ¬ ValidM M
 ·rw [decide_eq_false hvM]
  have Hno := Lib.hid (show ¬ (ValidM M ∧ ValidM N) from fun h => hvM h.1)
  obtain ⟨⟨-, -, hbw⟩, kR⟩ := F.out.now
  have q0 : w1.cell? ⟨w.heap.size + 2, 0, none⟩ = some (.int .i64 0) := kR.cell 0
  have q1 : w1.cell? ⟨w.heap.size + 2, 1, none⟩ = some (.int .i64 0) := kR.cell 1
  have q2 : w1.cell? ⟨w.heap.size + 2, 2, none⟩ = some (.slice none 0 0) := kR.cell 2
  have q3 : w1.cell? ⟨w.heap.size + 2, 3, none⟩ = some (.slice none 0 0) := kR.cell 3
  have fz : ∀ j, w1.frozen? ⟨w.heap.size + 2, j, none⟩ = false := fun j => kR.frozen j
  have hbs := (((hbw.setCell (p := ⟨w.heap.size + 2, 0, none⟩) (by simp) (.int .i64 0)).setCell (p := ⟨w.heap.size + 2, 1, none⟩) (by simp) (.int .i64 0)).setCell (p := ⟨w.heap.size + 2, 2, none⟩) (by simp) (.slice none 0 0)).setCell (p := ⟨w.heap.size + 2, 3, none⟩) (by simp) (.slice none 0 0)
  have Hbs := Lib.hid hbs
  clear kR hbs hbw
  go_wp2_with fail
  refine bodyPost_ret (v := .tuple #[.agg #[.int .i64 0, .int .i64 0, .slice none 0 0, .slice none 0 0], .int .i64 1]) (by simp [results, Tryz.results8, go_sem, q0, q1, q2, q3]) rfl ?_
  exact ⟨_, zeroM, 1, rfl, zero_mach _ _, Hbs.out, .inl ⟨Hno.out, rfl, rfl⟩⟩
 rw [decide_eq_true (Classical.not_not.1 hvM)]
 have hM := Classical.not_not.1 hvM
 clear hvM
 obtain ⟨⟨kn, -, -⟩, -⟩ := F.out.now
 have n0 := kn.c0
 have n1 := kn.c1
 have n2 := kn.c2
 have n3 := kn.c3
 have mn := kn.mach
 clear kn
 go_wp2_with fail
 refine (Valid12_any N _ w1 mn).mono ?_
 rintro e w2 ⟨rfl, hb⟩
 clear n0 n1 n2 n3 mn
 have F' := Lib.hid (F.out.move hb)
 clear F hb
 have F := F'
 clear F'
 by_cases hvN : ¬ ValidM N
 ·rw [decide_eq_false hvN]
  have Hno := Lib.hid (show ¬ (ValidM M ∧ ValidM N) from fun h => hvN h.2)
  obtain ⟨⟨-, -, hbw⟩, kR⟩ := F.out.now
  have q0 : w2.cell? ⟨w.heap.size + 2, 0, none⟩ = some (.int .i64 0) := kR.cell 0
  have q1 : w2.cell? ⟨w.heap.size + 2, 1, none⟩ = some (.int .i64 0) := kR.cell 1
  have q2 : w2.cell? ⟨w.heap.size + 2, 2, none⟩ = some (.slice none 0 0) := kR.cell 2
  have q3 : w2.cell? ⟨w.heap.size + 2, 3, none⟩ = some (.slice none 0 0) := kR.cell 3
  have fz : ∀ j, w2.frozen? ⟨w.heap.size + 2, j, none⟩ = false := fun j => kR.frozen j
  have hbs := (((hbw.setCell (p := ⟨w.heap.size + 2, 0, none⟩) (by simp) (.int .i64 0)).setCell (p := ⟨w.heap.size + 2, 1, none⟩) (by simp) (.int .i64 0)).setCell (p := ⟨w.heap.size + 2, 2, none⟩) (by simp) (.slice none 0 0)).setCell (p := ⟨w.heap.size + 2, 3, none⟩) (by simp) (.slice none 0 0)
  have Hbs := Lib.hid hbs
  clear kR hbs hbw
  go_wp2_with fail
  refine bodyPost_ret (v := .tuple #[.agg #[.int .i64 0, .int .i64 0, .slice none 0 0, .slice none 0 0], .int .i64 1]) (by simp [results, Tryz.results8, go_sem, q0, q1, q2, q3]) rfl ?_
  exact ⟨_, zeroM, 1, rfl, zero_mach _ _, Hbs.out, .inl ⟨Hno.out, rfl, rfl⟩⟩
 rw [decide_eq_true (Classical.not_not.1 hvN)]
 have hN := Classical.not_not.1 hvN
 clear hvN
 have HV := Lib.hid (And.intro hM hN)
 have hMl := hM.arcsLen
 have hNl := hN.arcsLen
 go_upto_region 4 with (fail)
 generalize hW4 : (w2.alloc _) = W4
 obtain ⟨B, hB⟩ : ∃ B, w2.heap.size = B := ⟨_, rfl⟩
 have hst : BSt w2 B (.slice none 0 0) (.slice none 0 0) [] [] W4 := ⟨by rw [← hW4, ← hB]; exact Blk.new _ _ _, World.ownsRow_nil _ _ _ _, World.ownsRow_nil _ _ _ _, by rw [← hW4, ← hB]; exact (Below.refl _ _).alloc (Nat.le_refl _) _⟩
 have FS := Lib.hid (fun (wx : World) (h : Below B w2 wx) => F.out wx (by rw [hB]; exact h))
 have hRB : w.heap.size + 2 < B := by have := F.out.now.2.lt; omega
 rw [hB]
 have HB := Lib.hid hB
 clear hW4 F hB hM hN
 obtain ⟨⟨kn, km, -⟩, -⟩ := FS.out W4 hst.2.2.2
 have m0 := km.c0
 have m1 := km.c1
 have m2 := km.c2
 have m3 := km.c3
 have mm := km.mach
 clear km
 have n0 := kn.c0
 have n1 := kn.c1
 have n2 := kn.c2
 have n3 := kn.c3
 have mn := kn.mach
 clear kn
 go_wp2_with fail
 refine (number14_any [] [] (M.start, N.start) (by simp) w2 B _ _ W4 hst).mono ?_
 clear m0 m1 m2 m3 mm
 clear n0 n1 n2 n3 mn
 rintro e w5 ⟨rfl, ⟨pv, hst5⟩, -, -⟩
 have h1 : addO [] (M.start, N.start) = [(M.start, N.start)] := by simp [addO]
 rw [h1] at hst5
 have H5 := Lib.hid hst5
 clear h1 hst hst5
 go_upto_region 5 with (fail)
 go_wp2_with fail
 go_loopw [7] (fun s7 wx => ∃ (i : Nat) (st : PSt) (pv av : Value), s7 = .int .i64 i ∧ PInv M N st i ∧ BSt w2 B pv av st.ord st.arcs wx) (fun s7 _ => 4000 - (intOf s7).toNat)
 case atStart => exact ⟨0, ⟨[(M.start, N.start)], []⟩, pv, _, rfl, PInv.start HV.out.1 HV.out.2, H5.out⟩
 case round =>
  obtain ⟨i, st, pv, av, rfl, hp, hst⟩ := hrel
  obtain ⟨wo, rfl⟩ : ∃ wo : World, wo = wr := ⟨_, rfl⟩
  obtain ⟨pa, pc, rfl, -, hrow⟩ := RowAt.of_own hst.2.1
  have c0 : wo.cell? ⟨B, 0, none⟩ = some (.slice pa st.ord.length pc) := hst.1.cell 0
  have hol := ord_le HV.out.1 HV.out.2 hp.nodup hp.pair
  have hi4 := hp.i4
  have HP := Lib.hid (And.intro hp hst)
  have HR := Lib.hid hrow
  clear hp hst hrow
  have hgo : (i < st.ord.length ∧ i < 4000) ∨ (st.ord.length ≤ i ∨ i = 4000) := by omega
  rcases hgo with ⟨hi, h4⟩ | hd
  ·obtain ⟨pb, po, rfl, -, hc⟩ := HR.out.pairs (by omega)
   obtain ⟨z0, z1⟩ := hc i hi
   have hmid := fun (pre : List PStep) (h : pre <+: stepsL M.arcs N.arcs st.ord[i]) => HP.out.1.midway HV.out.1 HV.out.2 hi h
   have hrw := HP.out.1.row HV.out.1 HV.out.2 hi h4
   obtain ⟨x, hx⟩ : ∃ x, st.ord[i] = x := ⟨_, rfl⟩
   rw [hx] at z0 z1 hmid hrw
   have HX := Lib.hid (And.intro hmid hrw)
   have d40 : decide ((i : Int) < 4000) = true := decide_eq_true (by omega)
   clear hc hmid hrw hx
   go_wp2_with fail
   clear z0 z1 c0
   go_loopw [10] (fun s wx => ∃ (j : Nat) (pv av : Value), j ≤ M.arcs.length ∧ s = .int .i64 j ∧ BSt w2 B pv av (midO i st (pre1 M.arcs N.arcs x j)).ord (midO i st (pre1 M.arcs N.arcs x j)).arcs wx) (fun s _ => M.arcs.length - (intOf s).toNat)
   case atStart => exact ⟨0, _, av, Nat.zero_le _, rfl, by rw [pre1_zero, midO_nil]; exact HP.out.2⟩
   case round =>
    obtain ⟨j, pv, av, hj, rfl, hst⟩ := hrel
    obtain ⟨wj, rfl⟩ : ∃ wj : World, wj = wr := ⟨_, rfl⟩
    obtain ⟨⟨kn, km, -⟩, -⟩ := FS.out wj hst.2.2.2
    by_cases hjl : j < M.arcs.length
    ·have hpre := pre1_le (m := M.arcs) (n := N.arcs) (x := x) j
     have hmi := HX.out.1 _ hpre
     obtain ⟨mb, mo, rfl, -, hcm⟩ := km.arcs.arcs (by omega)
     obtain ⟨e0, e1, e2, e3⟩ := hcm j hjl
     have h1 := pre1_skip (n := N.arcs) (x := x) hjl
     have h2 := pre1_silent (n := N.arcs) (x := x) hjl
     have h3 := pre1_loud (n := N.arcs) (x := x) hjl
     have h4' := pre2_le (n := N.arcs) (x := x) hjl
     obtain ⟨a, ha⟩ : ∃ a, M.arcs[j] = a := ⟨_, rfl⟩
     rw [ha] at e0 e1 e2 e3 h1 h2 h3 h4'
     have HJ := Lib.hid (And.intro hmi (And.intro h1 (And.intro h2 (And.intro h3 h4'))))
     have m3 := km.c3
     clear hpre hmi hcm h1 h2 h3 h4' ha km kn
     go_upto_region 14 with (fail)
     generalize hW : (wj.alloc _) = W
     obtain ⟨ba, hba⟩ : ∃ b, wj.heap.size = b := ⟨_, rfl⟩
     have ka : Blk W ba #[.int .i64 a.frm, .int .i64 a.inp, .int .i64 a.out, .int .i64 a.to] 40 := by rw [← hW, ← hba]; exact Blk.new _ _ _
     have hsW := hst.below (show Below wj.heap.size wj W by rw [← hW]; exact (Below.refl _ _).alloc (Nat.le_refl _) _)
     have hneba : ba ≠ B := by have := hst.1.lt; omega
     have havba : av.ownBlock ≠ some ba := fun e => by have := (hst.2.2.1.lt _ e).2; omega
     rw [hba]
     have HK := Lib.hid (And.intro hsW ka)
     have x0 : W.cell? ⟨ba, 0, none⟩ = some (.int .i64 a.frm) := ka.cell 0
     have x2 : W.cell? ⟨ba, 2, none⟩ = some (.int .i64 a.out) := ka.cell 2
     clear hW hba ka hsW hst e0 e1 e2 e3 m3
     by_cases hf : a.frm = x.1
     case neg =>
      have d1 : (a.frm != x.1) = true := by simp [hf]
      have Hs := Lib.hid (HJ.out.2.1 hf)
      clear hf
      go_wp2_with fail
      exact ⟨⟨j + 1, pv, av, by omega, by go_num, by rw [Hs.out]; exact HK.out.1⟩, by simp [intOf]; omega⟩
     have d1 : (a.frm != x.1) = false := by simp [hf]
     by_cases h0 : a.out = 0
     ·have d2 : (a.out == 0) = true := by simp [h0]
      have Hs := Lib.hid (HJ.out.2.2.1 hf h0)
      have hal := HJ.out.1.arcs_le HV.out.1 HV.out.2 (by omega)
      have hbo := HJ.out.1.ord_le HV.out.1 HV.out.2
      obtain ⟨st', hst'⟩ : ∃ s, s = midO i st (pre1 M.arcs N.arcs x j) := ⟨_, rfl⟩
      rw [← hst'] at hal hbo
      have hk := HK.out
      rw [← hst'] at hk
      have Hst := Lib.hid hst'
      obtain ⟨va, vc, rfl, -, -⟩ := RowAt.of_own hk.1.2.2.1
      have H := Lib.hid hk
      clear hst' hk HK
      go_upto_region 16 with (fail)
      have hnum := number14_any st'.ord st'.arcs (a.to, x.2) hbo w2 B pv (.slice va st'.arcs.length vc) W.drew H.out.1.drew
      dsimp only at hnum
      have hix : ∃ ix : Nat, (addO st'.ord (a.to, x.2)).idxOf (a.to, x.2) = ix := ⟨_, rfl⟩
      obtain ⟨ix, hix⟩ := hix
      rw [hix] at hnum
      have HQ := Lib.hid hnum
      have Hix := Lib.hid hix
      clear hnum hix
      have b1 : W.cell? ⟨B, 1, none⟩ = some (.slice va st'.arcs.length vc) := H.out.1.1.cell 1
      have kk0 := H.out.2
      have y01 : W.cell? ⟨ba, 1, none⟩ = some (.int .i64 a.inp) := kk0.cell 1
      have y03 : W.cell? ⟨ba, 3, none⟩ = some (.int .i64 a.to) := kk0.cell 3
      refine wp_region_held_drew (S := fun w' : World => w'.cell? ⟨ba, 1, none⟩ = some (.int .i64 a.inp) ∧ w'.cell? ⟨ba, 3, none⟩ = some (.int .i64 a.to)) (by kernel_rfl) ⟨y01, y03⟩ (fun hHeld => ?_)
      refine tk (v := ?_) 0 rfl (Or.inl ⟨by rfl, ?_⟩) ?_
      rotate_left
      ·intro w' hSw; (try dsimp only at hSw); first | (go_simp; done) | (go_simp; with_reducible rfl)
      try simp only [Act.put, List.setIfInBounds_toArray]
      refine tk (v := ?_) 1 rfl (Or.inl ⟨by rfl, ?_⟩) ?_
      rotate_left
      ·intro w' hSw; (try dsimp only at hSw); first | (go_simp; done) | (go_simp; with_reducible rfl)
      try simp only [Act.put]
      refine tk (v := ?_) 2 rfl (Or.inl ⟨by rfl, ?_⟩) ?_
      rotate_left
      ·intro w' hSw; (try dsimp only at hSw); first | (go_simp; done) | (go_simp; with_reducible rfl)
      try simp only [Act.put]
      refine tk (v := ?_) 3 rfl (Or.inl ⟨by rfl, ?_⟩) ?_
      rotate_left
      ·intro w' hSw; (try dsimp only at hSw); first | (go_simp; done) | (go_simp; with_reducible rfl)
      try simp only [Act.put]
      refine tk (v := ?_) 5 rfl (Or.inl ⟨by rfl, ?_⟩) ?_
      rotate_left
      ·intro w' hSw; (try dsimp only at hSw); first | (go_simp; done) | (go_simp; with_reducible rfl)
      try simp only [Act.put]
      refine tk (v := ?_) 6 rfl (Or.inl ⟨by rfl, ?_⟩) ?_
      rotate_left
      ·intro w' hSw; (try dsimp only at hSw); first | (go_simp; done) | (go_simp; with_reducible rfl)
      try simp only [Act.put]
      refine tk (v := ?_) 7 rfl (Or.inl ⟨by rfl, ?_⟩) ?_
      rotate_left
      ·intro w' hSw; (try dsimp only at hSw); first | (go_simp; done) | (go_simp; with_reducible rfl)
      try simp only [Act.put]
      refine tk (v := ?_) 8 rfl (Or.inl ⟨by rfl, ?_⟩) ?_
      rotate_left
      ·intro w' hSw; (try dsimp only at hSw); first | (go_simp; done) | (go_simp; with_reducible rfl)
      try simp only [Act.put]
      refine tk (v := ?_) 9 rfl (Or.inl ⟨by rfl, ?_⟩) ?_
      rotate_left
      ·intro w' hSw; (try dsimp only at hSw); first | (go_simp; done) | (go_simp; with_reducible rfl)
      try simp only [Act.put]
      refine tk (v := ?_) 10 rfl (Or.inl ⟨by rfl, ?_⟩) ?_
      rotate_left
      ·intro w' hSw; (try dsimp only at hSw); first | (go_simp; done) | (go_simp; with_reducible rfl)
      try simp only [Act.put]
      refine tk (v := ?_) 11 rfl (Or.inl ⟨by rfl, ?_⟩) ?_
      rotate_left
      ·intro w' hSw; (try dsimp only at hSw); first | (go_simp; done) | (go_simp; with_reducible rfl)
      try simp only [Act.put]
      refine wpAnyH_ready (rs := [4, 12]) (by as_aux_lemma => kernel_rfl) (by simp) ?_
      refine AllReadyH.cons rfl (fun K hK => ?_) (AllReadyH.cons rfl (fun K hK => ?_) AllReadyH.nil)
      ·go_simp
       refine hK.out _ _ (hHeld) (fun _ => ?_)
       clear hK K
       try simp only [Act.put, List.setIfInBounds_toArray, List.set_cons_zero, List.set_cons_succ]
       refine wpAnyH_ready (rs := [12]) (by as_aux_lemma => kernel_rfl) (by simp) ?_
       refine AllReadyH.cons rfl (fun K hK => ?_) AllReadyH.nil
       go_simp
       go_at_call 27
       refine HQ.out.mono ?_
       rintro e W1 ⟨rfl, ⟨pv1, hst1⟩, hb1, hkeep1⟩
       have k10 := hkeep1 ba _ _ hneba (by decide) (Blk.drew' kk0)
       have c1 : W1.cell? ⟨B, 1, none⟩ = some (.slice va st'.arcs.length vc) := hst1.1.cell 1
       have hn1 := World.new_ne W1 ⟨B, 1, none⟩ c1
       first | go_wp2_with fail | skip
       refine hK.out _ _ (⟨k10.cell 1, k10.cell 3⟩) (fun _ => ?_)
       clear hK K
       try simp only [Act.put, List.setIfInBounds_toArray, List.set_cons_zero, List.set_cons_succ]
       refine tk (v := ?_) 13 rfl (Or.inl ⟨by rfl, ?_⟩) ?_
       rotate_left
       ·intro w' hSw; (try dsimp only at hSw); first | (go_simp; done) | (go_simp; with_reducible rfl)
       try simp only [Act.put, List.setIfInBounds_toArray]
       refine wpAnyH_ready (rs := [14]) (by as_aux_lemma => kernel_rfl) (by simp) ?_
       refine AllReadyH.cons rfl (fun K hK => ?_) AllReadyH.nil
       have k20 := k10.alloc (.cells #[.int .i64 (i : Int), .int .i64 a.inp, .int .i64 0, .int .i64 (ix : Int)] 40)
       have c2 : (W1.alloc (.cells #[.int .i64 (i : Int), .int .i64 a.inp, .int .i64 0, .int .i64 (ix : Int)] 40)).cell? ⟨B, 1, none⟩ = some (.slice va st'.arcs.length vc) := (hst1.1.alloc _).cell 1
       go_simp
       refine hK.out _ _ (⟨k20.cell 1, k20.cell 3⟩) (fun _ => ?_)
       clear hK K
       try simp only [Act.put, List.setIfInBounds_toArray, List.set_cons_zero, List.set_cons_succ]
       refine wpAnyH_ready (rs := [15]) (by as_aux_lemma => kernel_rfl) (by simp) ?_
       refine AllReadyH.cons rfl (fun K hK => ?_) AllReadyH.nil
       refine step_append_lies _ (by rfl) _ _ _ (by rfl) (B + 1) 40 ja _ 4 32 Tryz.underlying23 hja1 hja2 hja3 hja4 rfl (by decide) (.slice va st'.arcs.length vc) st'.arcs.length (flat st'.arcs) (by rfl) (hst1.2.2.1.alloc _) ⟨W1.heap.size, 0, none⟩ 1 1 [.int .i64 (i : Int), .int .i64 a.inp, .int .i64 0, .int .i64 (ix : Int)] (by rfl) rfl (by exact cells_new _ _ _) (by simp [Value.oneCell']) (by decide) (by unfold maxLen; omega) (by omega) (by have := hst1.1.lt; simp; omega) _ rfl ?_
       intro g cap W3 hown3 hgrow3 hat3 hlt3
       have k30 := k20.grown hgrow3 (fun e => havba e.symm)
       have k3B := (hst1.1.alloc (.cells #[.int .i64 (i : Int), .int .i64 a.inp, .int .i64 0, .int .i64 (ix : Int)] 40)).grown hgrow3 (fun e => (hst1.1.alloc (.cells #[.int .i64 (i : Int), .int .i64 a.inp, .int .i64 0, .int .i64 (ix : Int)] 40)).own_ne (hst1.2.2.1.alloc _) (by decide) e.symm)
       have c3 : W3.cell? ⟨B, 1, none⟩ = some (.slice va st'.arcs.length vc) := k3B.cell 1
       have f3 := k3B.frozen 1
       refine hK.out _ _ (⟨k30.cell 1, k30.cell 3⟩) (fun _ => ?_)
       clear hK K
       try simp only [Act.put, List.setIfInBounds_toArray]
       refine tk (v := ?_) 16 rfl (Or.inl ⟨by rfl, ?_⟩) ?_
       rotate_left
       ·intro w' hSw; (try dsimp only at hSw); first | (go_simp; done) | (go_simp; with_reducible rfl)
       try simp only [Act.put]
       refine tk (v := ?_) 17 rfl (Or.inl ⟨by rfl, ?_⟩) ?_
       rotate_left
       ·intro w' hSw; (try dsimp only at hSw); first | (go_simp; done) | (go_simp; with_reducible rfl)
       try simp only [Act.put]
       refine wpAnyH_ready (rs := [18]) (by as_aux_lemma => kernel_rfl) (by simp) ?_
       refine AllReadyH.cons rfl (fun K hK => ?_) AllReadyH.nil
       go_simp
       have k40 := k30.far (p := ⟨B, 1, none⟩) hneba (.slice (some ⟨g, 0, none⟩) (st'.arcs.length + 1) cap)
       refine hK.out _ _ (⟨k40.cell 1, k40.cell 3⟩) (fun _ => ?_)
       clear hK K
       try simp only [Act.put, List.setIfInBounds_toArray, List.set_cons_zero, List.set_cons_succ]
       refine wpAnyH_done (by as_aux_lemma => kernel_rfl) ?_ _
       have hfl : flat st'.arcs ++ [.int .i64 (i : Int), .int .i64 a.inp, .int .i64 0, .int .i64 (ix : Int)] = flat (st'.arcs ++ [⟨(i : Int), a.inp, 0, (ix : Int)⟩]) := by rw [flat_append, flat_one]; rfl
       rw [hfl] at hown3
       have hfin := hst1.arcs_app (arcs' := st'.arcs ++ [⟨(i : Int), a.inp, 0, (ix : Int)⟩]) (by rw [List.length_append]; exact hown3) hgrow3
       have HF := Lib.hid hfin
       clear hfin hfl k3B c1 c3 f3 hn1 hown3 hst1 hb1 hkeep1 b1 y01 y03
       have hm := midO_snoc (i := i) (st := st) (pre1 M.arcs N.arcs x j) ⟨a.inp, 0, (a.to, x.2)⟩
       rw [← Hs.out, ← Hst.out] at hm
       unfold stepO at hm
       dsimp only at hm
       rw [Hix.out] at hm
       have Hm := Lib.hid hm
       clear hm
       go_wp2_with fail
       exact ⟨⟨j + 1, _, _, by omega, by go_num, by rw [Hm.out]; exact HF.out⟩, by simp [intOf]; omega⟩
      ·skip
       go_simp
       go_at_call 27
       refine HQ.out.mono ?_
       rintro e W1 ⟨rfl, ⟨pv1, hst1⟩, hb1, hkeep1⟩
       have k10 := hkeep1 ba _ _ hneba (by decide) (Blk.drew' kk0)
       have c1 : W1.cell? ⟨B, 1, none⟩ = some (.slice va st'.arcs.length vc) := hst1.1.cell 1
       have hn1 := World.new_ne W1 ⟨B, 1, none⟩ c1
       first | go_wp2_with fail | skip
       refine hK.out _ _ (⟨k10.cell 1, k10.cell 3⟩) (fun _ => ?_)
       clear hK K
       try simp only [Act.put, List.setIfInBounds_toArray, List.set_cons_zero, List.set_cons_succ]
       refine tk (v := ?_) 13 rfl (Or.inl ⟨by rfl, ?_⟩) ?_
       rotate_left
       ·intro w' hSw; (try dsimp only at hSw); first | (go_simp; done) | (go_simp; with_reducible rfl)
       try simp only [Act.put, List.setIfInBounds_toArray]
       refine wpAnyH_ready (rs := [4, 14]) (by as_aux_lemma => kernel_rfl) (by simp) ?_
       refine AllReadyH.cons rfl (fun K hK => ?_) (AllReadyH.cons rfl (fun K hK => ?_) AllReadyH.nil)
       ·go_simp
        refine hK.out _ _ (⟨k10.cell 1, k10.cell 3⟩) (fun _ => ?_)
        clear hK K
        try simp only [Act.put, List.setIfInBounds_toArray, List.set_cons_zero, List.set_cons_succ]
        refine wpAnyH_ready (rs := [14]) (by as_aux_lemma => kernel_rfl) (by simp) ?_
        refine AllReadyH.cons rfl (fun K hK => ?_) AllReadyH.nil
        have k20 := k10.alloc (.cells #[.int .i64 (i : Int), .int .i64 a.inp, .int .i64 0, .int .i64 (ix : Int)] 40)
        have c2 : (W1.alloc (.cells #[.int .i64 (i : Int), .int .i64 a.inp, .int .i64 0, .int .i64 (ix : Int)] 40)).cell? ⟨B, 1, none⟩ = some (.slice va st'.arcs.length vc) := (hst1.1.alloc _).cell 1
        go_simp
        refine hK.out _ _ (⟨k20.cell 1, k20.cell 3⟩) (fun _ => ?_)
        clear hK K
        try simp only [Act.put, List.setIfInBounds_toArray, List.set_cons_zero, List.set_cons_succ]
        refine wpAnyH_ready (rs := [15]) (by as_aux_lemma => kernel_rfl) (by simp) ?_
        refine AllReadyH.cons rfl (fun K hK => ?_) AllReadyH.nil
        refine step_append_lies _ (by rfl) _ _ _ (by rfl) (B + 1) 40 ja _ 4 32 Tryz.underlying23 hja1 hja2 hja3 hja4 rfl (by decide) (.slice va st'.arcs.length vc) st'.arcs.length (flat st'.arcs) (by rfl) (hst1.2.2.1.alloc _) ⟨W1.heap.size, 0, none⟩ 1 1 [.int .i64 (i : Int), .int .i64 a.inp, .int .i64 0, .int .i64 (ix : Int)] (by rfl) rfl (by exact cells_new _ _ _) (by simp [Value.oneCell']) (by decide) (by unfold maxLen; omega) (by omega) (by have := hst1.1.lt; simp; omega) _ rfl ?_
        intro g cap W3 hown3 hgrow3 hat3 hlt3
        have k30 := k20.grown hgrow3 (fun e => havba e.symm)
        have k3B := (hst1.1.alloc (.cells #[.int .i64 (i : Int), .int .i64 a.inp, .int .i64 0, .int .i64 (ix : Int)] 40)).grown hgrow3 (fun e => (hst1.1.alloc (.cells #[.int .i64 (i : Int), .int .i64 a.inp, .int .i64 0, .int .i64 (ix : Int)] 40)).own_ne (hst1.2.2.1.alloc _) (by decide) e.symm)
        have c3 : W3.cell? ⟨B, 1, none⟩ = some (.slice va st'.arcs.length vc) := k3B.cell 1
        have f3 := k3B.frozen 1
        refine hK.out _ _ (⟨k30.cell 1, k30.cell 3⟩) (fun _ => ?_)
        clear hK K
        try simp only [Act.put, List.setIfInBounds_toArray]
        refine tk (v := ?_) 16 rfl (Or.inl ⟨by rfl, ?_⟩) ?_
        rotate_left
        ·intro w' hSw; (try dsimp only at hSw); first | (go_simp; done) | (go_simp; with_reducible rfl)
        try simp only [Act.put]
        refine tk (v := ?_) 17 rfl (Or.inl ⟨by rfl, ?_⟩) ?_
        rotate_left
        ·intro w' hSw; (try dsimp only at hSw); first | (go_simp; done) | (go_simp; with_reducible rfl)
        try simp only [Act.put]
        refine wpAnyH_ready (rs := [18]) (by as_aux_lemma => kernel_rfl) (by simp) ?_
        refine AllReadyH.cons rfl (fun K hK => ?_) AllReadyH.nil
        go_simp
        have k40 := k30.far (p := ⟨B, 1, none⟩) hneba (.slice (some ⟨g, 0, none⟩) (st'.arcs.length + 1) cap)
        refine hK.out _ _ (⟨k40.cell 1, k40.cell 3⟩) (fun _ => ?_)
        clear hK K
        try simp only [Act.put, List.setIfInBounds_toArray, List.set_cons_zero, List.set_cons_succ]
        refine wpAnyH_done (by as_aux_lemma => kernel_rfl) ?_ _
        have hfl : flat st'.arcs ++ [.int .i64 (i : Int), .int .i64 a.inp, .int .i64 0, .int .i64 (ix : Int)] = flat (st'.arcs ++ [⟨(i : Int), a.inp, 0, (ix : Int)⟩]) := by rw [flat_append, flat_one]; rfl
        rw [hfl] at hown3
        have hfin := hst1.arcs_app (arcs' := st'.arcs ++ [⟨(i : Int), a.inp, 0, (ix : Int)⟩]) (by rw [List.length_append]; exact hown3) hgrow3
        have HF := Lib.hid hfin
        clear hfin hfl k3B c1 c3 f3 hn1 hown3 hst1 hb1 hkeep1 b1 y01 y03
        have hm := midO_snoc (i := i) (st := st) (pre1 M.arcs N.arcs x j) ⟨a.inp, 0, (a.to, x.2)⟩
        rw [← Hs.out, ← Hst.out] at hm
        unfold stepO at hm
        dsimp only at hm
        rw [Hix.out] at hm
        have Hm := Lib.hid hm
        clear hm
        go_wp2_with fail
        exact ⟨⟨j + 1, _, _, by omega, by go_num, by rw [Hm.out]; exact HF.out⟩, by simp [intOf]; omega⟩
       ·skip
        have k20 := k10.alloc (.cells #[.int .i64 (i : Int), .int .i64 a.inp, .int .i64 0, .int .i64 (ix : Int)] 40)
        have c2 : (W1.alloc (.cells #[.int .i64 (i : Int), .int .i64 a.inp, .int .i64 0, .int .i64 (ix : Int)] 40)).cell? ⟨B, 1, none⟩ = some (.slice va st'.arcs.length vc) := (hst1.1.alloc _).cell 1
        go_simp
        refine hK.out _ _ (⟨k20.cell 1, k20.cell 3⟩) (fun _ => ?_)
        clear hK K
        try simp only [Act.put, List.setIfInBounds_toArray, List.set_cons_zero, List.set_cons_succ]
        refine wpAnyH_ready (rs := [4]) (by as_aux_lemma => kernel_rfl) (by simp) ?_
        refine AllReadyH.cons rfl (fun K hK => ?_) AllReadyH.nil
        go_simp
        refine hK.out _ _ (⟨k20.cell 1, k20.cell 3⟩) (fun _ => ?_)
        clear hK K
        try simp only [Act.put, List.setIfInBounds_toArray, List.set_cons_zero, List.set_cons_succ]
        refine wpAnyH_ready (rs := [15]) (by as_aux_lemma => kernel_rfl) (by simp) ?_
        refine AllReadyH.cons rfl (fun K hK => ?_) AllReadyH.nil
        refine step_append_lies _ (by rfl) _ _ _ (by rfl) (B + 1) 40 ja _ 4 32 Tryz.underlying23 hja1 hja2 hja3 hja4 rfl (by decide) (.slice va st'.arcs.length vc) st'.arcs.length (flat st'.arcs) (by rfl) (hst1.2.2.1.alloc _) ⟨W1.heap.size, 0, none⟩ 1 1 [.int .i64 (i : Int), .int .i64 a.inp, .int .i64 0, .int .i64 (ix : Int)] (by rfl) rfl (by exact cells_new _ _ _) (by simp [Value.oneCell']) (by decide) (by unfold maxLen; omega) (by omega) (by have := hst1.1.lt; simp; omega) _ rfl ?_
        intro g cap W3 hown3 hgrow3 hat3 hlt3
        have k30 := k20.grown hgrow3 (fun e => havba e.symm)
        have k3B := (hst1.1.alloc (.cells #[.int .i64 (i : Int), .int .i64 a.inp, .int .i64 0, .int .i64 (ix : Int)] 40)).grown hgrow3 (fun e => (hst1.1.alloc (.cells #[.int .i64 (i : Int), .int .i64 a.inp, .int .i64 0, .int .i64 (ix : Int)] 40)).own_ne (hst1.2.2.1.alloc _) (by decide) e.symm)
        have c3 : W3.cell? ⟨B, 1, none⟩ = some (.slice va st'.arcs.length vc) := k3B.cell 1
        have f3 := k3B.frozen 1
        refine hK.out _ _ (⟨k30.cell 1, k30.cell 3⟩) (fun _ => ?_)
        clear hK K
        try simp only [Act.put, List.setIfInBounds_toArray]
        refine tk (v := ?_) 16 rfl (Or.inl ⟨by rfl, ?_⟩) ?_
        rotate_left
        ·intro w' hSw; (try dsimp only at hSw); first | (go_simp; done) | (go_simp; with_reducible rfl)
        try simp only [Act.put]
        refine tk (v := ?_) 17 rfl (Or.inl ⟨by rfl, ?_⟩) ?_
        rotate_left
        ·intro w' hSw; (try dsimp only at hSw); first | (go_simp; done) | (go_simp; with_reducible rfl)
        try simp only [Act.put]
        refine wpAnyH_ready (rs := [18]) (by as_aux_lemma => kernel_rfl) (by simp) ?_
        refine AllReadyH.cons rfl (fun K hK => ?_) AllReadyH.nil
        go_simp
        have k40 := k30.far (p := ⟨B, 1, none⟩) hneba (.slice (some ⟨g, 0, none⟩) (st'.arcs.length + 1) cap)
        refine hK.out _ _ (⟨k40.cell 1, k40.cell 3⟩) (fun _ => ?_)
        clear hK K
        try simp only [Act.put, List.setIfInBounds_toArray, List.set_cons_zero, List.set_cons_succ]
        refine wpAnyH_done (by as_aux_lemma => kernel_rfl) ?_ _
        have hfl : flat st'.arcs ++ [.int .i64 (i : Int), .int .i64 a.inp, .int .i64 0, .int .i64 (ix : Int)] = flat (st'.arcs ++ [⟨(i : Int), a.inp, 0, (ix : Int)⟩]) := by rw [flat_append, flat_one]; rfl
        rw [hfl] at hown3
        have hfin := hst1.arcs_app (arcs' := st'.arcs ++ [⟨(i : Int), a.inp, 0, (ix : Int)⟩]) (by rw [List.length_append]; exact hown3) hgrow3
        have HF := Lib.hid hfin
        clear hfin hfl k3B c1 c3 f3 hn1 hown3 hst1 hb1 hkeep1 b1 y01 y03
        have hm := midO_snoc (i := i) (st := st) (pre1 M.arcs N.arcs x j) ⟨a.inp, 0, (a.to, x.2)⟩
        rw [← Hs.out, ← Hst.out] at hm
        unfold stepO at hm
        dsimp only at hm
        rw [Hix.out] at hm
        have Hm := Lib.hid hm
        clear hm
        go_wp2_with fail
        exact ⟨⟨j + 1, _, _, by omega, by go_num, by rw [Hm.out]; exact HF.out⟩, by simp [intOf]; omega⟩
     ·have d2 : (a.out == 0) = false := by simp [h0]
      have Hs := Lib.hid (HJ.out.2.2.2.1 hf h0)
      have Hp2 := Lib.hid (HJ.out.2.2.2.2 hf h0)
      have Hav := Lib.hid havba
      clear havba hf
      go_wp2_with fail
      clear x0 x2
      go_loopw [12] (fun s wx => ∃ (k : Nat) (pv av : Value), k ≤ N.arcs.length ∧ s = .int .i64 k ∧ BSt w2 B pv av (midO i st (pre2 M.arcs N.arcs x j a k)).ord (midO i st (pre2 M.arcs N.arcs x j a k)).arcs wx ∧ Blk wx ba #[.int .i64 a.frm, .int .i64 a.inp, .int .i64 a.out, .int .i64 a.to] 40 ∧ av.ownBlock ≠ some ba) (fun s _ => N.arcs.length - (intOf s).toNat)
      case atStart => exact ⟨0, _, _, Nat.zero_le _, rfl, by rw [pre2_zero]; exact HK.out.1, HK.out.2, Hav.out⟩
      case round =>
       obtain ⟨k, pv, av, hk, rfl, hst, ka, havba⟩ := hrel
       obtain ⟨wk, rfl⟩ : ∃ wk : World, wk = wr := ⟨_, rfl⟩
       obtain ⟨⟨kn, -, -⟩, -⟩ := FS.out wk hst.2.2.2
       by_cases hkl : k < N.arcs.length
       ·have hmi := HX.out.1 _ (Hp2.out k)
        obtain ⟨nb, no, rfl, -, hcn⟩ := kn.arcs.arcs (by omega)
        obtain ⟨e0, e1, e2, e3⟩ := hcn k hkl
        have h1 := pre2_yes (m := M.arcs) (x := x) (j := j) (a := a) hkl
        have h2 := pre2_no (m := M.arcs) (x := x) (j := j) (a := a) hkl
        obtain ⟨b, hb'⟩ : ∃ b, N.arcs[k] = b := ⟨_, rfl⟩
        rw [hb'] at e0 e1 e2 e3 h1 h2
        have HL := Lib.hid (And.intro hmi (And.intro h1 h2))
        have n3 := kn.c3
        clear hmi hcn h1 h2 hb' kn
        go_upto_region 21 with (fail)
        generalize hW : (wk.alloc _) = W
        obtain ⟨bb, hbb⟩ : ∃ b, wk.heap.size = b := ⟨_, rfl⟩
        have hbl : Below wk.heap.size wk W := by rw [← hW]; exact (Below.refl _ _).alloc (Nat.le_refl _) _
        have kb : Blk W bb #[.int .i64 b.frm, .int .i64 b.inp, .int .i64 b.out, .int .i64 b.to] 40 := by rw [← hW, ← hbb]; exact Blk.new _ _ _
        have hsW := hst.below hbl
        have kaW := ka.below hbl ka.lt
        have hnebb : bb ≠ B := by have := hst.1.lt; omega
        have havbb : av.ownBlock ≠ some bb := fun e => by have := (hst.2.2.1.lt _ e).2; omega
        rw [hbb]
        have x0 : W.cell? ⟨bb, 0, none⟩ = some (.int .i64 b.frm) := kb.cell 0
        have x1 : W.cell? ⟨bb, 1, none⟩ = some (.int .i64 b.inp) := kb.cell 1
        have y2 : W.cell? ⟨ba, 2, none⟩ = some (.int .i64 a.out) := kaW.cell 2
        have HK := Lib.hid (And.intro hsW (And.intro kaW kb))
        have Hav := Lib.hid havba
        clear hW hbb hbl kb hsW kaW ka hst e0 e1 e2 e3 n3
        by_cases hq : b.frm = x.2 ∧ b.inp = a.out
        ·have d3 : (b.frm == x.2) = true := by simp [hq.1]
         have d4 : (b.inp == a.out) = true := by simp [hq.2]
         have Hs2 := Lib.hid (HL.out.2.1 hq)
         have hal := HL.out.1.arcs_le HV.out.1 HV.out.2 (by omega)
         have hbo := HL.out.1.ord_le HV.out.1 HV.out.2
         obtain ⟨st', hst'⟩ : ∃ s, s = midO i st (pre2 M.arcs N.arcs x j a k) := ⟨_, rfl⟩
         rw [← hst'] at hal hbo
         have hk2 := HK.out
         rw [← hst'] at hk2
         have Hst := Lib.hid hst'
         obtain ⟨va, vc, rfl, -, -⟩ := RowAt.of_own hk2.1.2.2.1
         have H := Lib.hid hk2
         clear hst' hk2 HK hq
         go_upto_region 22 with (fail)
         have hnum := number14_any st'.ord st'.arcs (a.to, b.to) hbo w2 B pv (.slice va st'.arcs.length vc) W.drew H.out.1.drew
         dsimp only at hnum
         have hix : ∃ ix : Nat, (addO st'.ord (a.to, b.to)).idxOf (a.to, b.to) = ix := ⟨_, rfl⟩
         obtain ⟨ix, hix⟩ := hix
         rw [hix] at hnum
         have HQ := Lib.hid hnum
         have Hix := Lib.hid hix
         clear hnum hix
         have b1 : W.cell? ⟨B, 1, none⟩ = some (.slice va st'.arcs.length vc) := H.out.1.1.cell 1
         have kk0 := H.out.2.1
         have kk1 := H.out.2.2
         have y01 : W.cell? ⟨ba, 1, none⟩ = some (.int .i64 a.inp) := kk0.cell 1
         have y03 : W.cell? ⟨ba, 3, none⟩ = some (.int .i64 a.to) := kk0.cell 3
         have y12 : W.cell? ⟨bb, 2, none⟩ = some (.int .i64 b.out) := kk1.cell 2
         have y13 : W.cell? ⟨bb, 3, none⟩ = some (.int .i64 b.to) := kk1.cell 3
         refine wp_region_held_drew (S := fun w' : World => w'.cell? ⟨ba, 1, none⟩ = some (.int .i64 a.inp) ∧ w'.cell? ⟨ba, 3, none⟩ = some (.int .i64 a.to) ∧ w'.cell? ⟨bb, 2, none⟩ = some (.int .i64 b.out) ∧ w'.cell? ⟨bb, 3, none⟩ = some (.int .i64 b.to)) (by kernel_rfl) ⟨y01, y03, y12, y13⟩ (fun hHeld => ?_)
         refine tk (v := ?_) 0 rfl (Or.inl ⟨by rfl, ?_⟩) ?_
         rotate_left
         ·intro w' hSw; (try dsimp only at hSw); first | (go_simp; done) | (go_simp; with_reducible rfl)
         try simp only [Act.put, List.setIfInBounds_toArray]
         refine tk (v := ?_) 1 rfl (Or.inl ⟨by rfl, ?_⟩) ?_
         rotate_left
         ·intro w' hSw; (try dsimp only at hSw); first | (go_simp; done) | (go_simp; with_reducible rfl)
         try simp only [Act.put]
         refine tk (v := ?_) 2 rfl (Or.inl ⟨by rfl, ?_⟩) ?_
         rotate_left
         ·intro w' hSw; (try dsimp only at hSw); first | (go_simp; done) | (go_simp; with_reducible rfl)
         try simp only [Act.put]
         refine tk (v := ?_) 3 rfl (Or.inl ⟨by rfl, ?_⟩) ?_
         rotate_left
         ·intro w' hSw; (try dsimp only at hSw); first | (go_simp; done) | (go_simp; with_reducible rfl)
         try simp only [Act.put]
         refine tk (v := ?_) 5 rfl (Or.inl ⟨by rfl, ?_⟩) ?_
         rotate_left
         ·intro w' hSw; (try dsimp only at hSw); first | (go_simp; done) | (go_simp; with_reducible rfl)
         try simp only [Act.put]
         refine tk (v := ?_) 6 rfl (Or.inl ⟨by rfl, ?_⟩) ?_
         rotate_left
         ·intro w' hSw; (try dsimp only at hSw); first | (go_simp; done) | (go_simp; with_reducible rfl)
         try simp only [Act.put]
         refine tk (v := ?_) 7 rfl (Or.inl ⟨by rfl, ?_⟩) ?_
         rotate_left
         ·intro w' hSw; (try dsimp only at hSw); first | (go_simp; done) | (go_simp; with_reducible rfl)
         try simp only [Act.put]
         refine tk (v := ?_) 8 rfl (Or.inl ⟨by rfl, ?_⟩) ?_
         rotate_left
         ·intro w' hSw; (try dsimp only at hSw); first | (go_simp; done) | (go_simp; with_reducible rfl)
         try simp only [Act.put]
         refine tk (v := ?_) 9 rfl (Or.inl ⟨by rfl, ?_⟩) ?_
         rotate_left
         ·intro w' hSw; (try dsimp only at hSw); first | (go_simp; done) | (go_simp; with_reducible rfl)
         try simp only [Act.put]
         refine tk (v := ?_) 10 rfl (Or.inl ⟨by rfl, ?_⟩) ?_
         rotate_left
         ·intro w' hSw; (try dsimp only at hSw); first | (go_simp; done) | (go_simp; with_reducible rfl)
         try simp only [Act.put]
         refine tk (v := ?_) 11 rfl (Or.inl ⟨by rfl, ?_⟩) ?_
         rotate_left
         ·intro w' hSw; (try dsimp only at hSw); first | (go_simp; done) | (go_simp; with_reducible rfl)
         try simp only [Act.put]
         refine tk (v := ?_) 12 rfl (Or.inl ⟨by rfl, ?_⟩) ?_
         rotate_left
         ·intro w' hSw; (try dsimp only at hSw); first | (go_simp; done) | (go_simp; with_reducible rfl)
         try simp only [Act.put]
         refine tk (v := ?_) 13 rfl (Or.inl ⟨by rfl, ?_⟩) ?_
         rotate_left
         ·intro w' hSw; (try dsimp only at hSw); first | (go_simp; done) | (go_simp; with_reducible rfl)
         try simp only [Act.put]
         refine tk (v := ?_) 14 rfl (Or.inl ⟨by rfl, ?_⟩) ?_
         rotate_left
         ·intro w' hSw; (try dsimp only at hSw); first | (go_simp; done) | (go_simp; with_reducible rfl)
         try simp only [Act.put]
         refine wpAnyH_ready (rs := [4, 15]) (by as_aux_lemma => kernel_rfl) (by simp) ?_
         refine AllReadyH.cons rfl (fun K hK => ?_) (AllReadyH.cons rfl (fun K hK => ?_) AllReadyH.nil)
         ·go_simp
          refine hK.out _ _ (hHeld) (fun _ => ?_)
          clear hK K
          try simp only [Act.put, List.setIfInBounds_toArray, List.set_cons_zero, List.set_cons_succ]
          refine wpAnyH_ready (rs := [15]) (by as_aux_lemma => kernel_rfl) (by simp) ?_
          refine AllReadyH.cons rfl (fun K hK => ?_) AllReadyH.nil
          go_simp
          go_at_call 27
          refine HQ.out.mono ?_
          rintro e W1 ⟨rfl, ⟨pv1, hst1⟩, hb1, hkeep1⟩
          have k10 := hkeep1 ba _ _ hneba (by decide) (Blk.drew' kk0)
          have k11 := hkeep1 bb _ _ hnebb (by decide) (Blk.drew' kk1)
          have c1 : W1.cell? ⟨B, 1, none⟩ = some (.slice va st'.arcs.length vc) := hst1.1.cell 1
          have hn1 := World.new_ne W1 ⟨B, 1, none⟩ c1
          first | go_wp2_with fail | skip
          refine hK.out _ _ (⟨k10.cell 1, k10.cell 3, k11.cell 2, k11.cell 3⟩) (fun _ => ?_)
          clear hK K
          try simp only [Act.put, List.setIfInBounds_toArray, List.set_cons_zero, List.set_cons_succ]
          refine tk (v := ?_) 16 rfl (Or.inl ⟨by rfl, ?_⟩) ?_
          rotate_left
          ·intro w' hSw; (try dsimp only at hSw); first | (go_simp; done) | (go_simp; with_reducible rfl)
          try simp only [Act.put, List.setIfInBounds_toArray]
          refine wpAnyH_ready (rs := [17]) (by as_aux_lemma => kernel_rfl) (by simp) ?_
          refine AllReadyH.cons rfl (fun K hK => ?_) AllReadyH.nil
          have k20 := k10.alloc (.cells #[.int .i64 (i : Int), .int .i64 a.inp, .int .i64 b.out, .int .i64 (ix : Int)] 40)
          have k21 := k11.alloc (.cells #[.int .i64 (i : Int), .int .i64 a.inp, .int .i64 b.out, .int .i64 (ix : Int)] 40)
          have c2 : (W1.alloc (.cells #[.int .i64 (i : Int), .int .i64 a.inp, .int .i64 b.out, .int .i64 (ix : Int)] 40)).cell? ⟨B, 1, none⟩ = some (.slice va st'.arcs.length vc) := (hst1.1.alloc _).cell 1
          go_simp
          refine hK.out _ _ (⟨k20.cell 1, k20.cell 3, k21.cell 2, k21.cell 3⟩) (fun _ => ?_)
          clear hK K
          try simp only [Act.put, List.setIfInBounds_toArray, List.set_cons_zero, List.set_cons_succ]
          refine wpAnyH_ready (rs := [18]) (by as_aux_lemma => kernel_rfl) (by simp) ?_
          refine AllReadyH.cons rfl (fun K hK => ?_) AllReadyH.nil
          refine step_append_lies _ (by rfl) _ _ _ (by rfl) (B + 1) 40 ja _ 4 32 Tryz.underlying23 hja1 hja2 hja3 hja4 rfl (by decide) (.slice va st'.arcs.length vc) st'.arcs.length (flat st'.arcs) (by rfl) (hst1.2.2.1.alloc _) ⟨W1.heap.size, 0, none⟩ 1 1 [.int .i64 (i : Int), .int .i64 a.inp, .int .i64 b.out, .int .i64 (ix : Int)] (by rfl) rfl (by exact cells_new _ _ _) (by simp [Value.oneCell']) (by decide) (by unfold maxLen; omega) (by omega) (by have := hst1.1.lt; simp; omega) _ rfl ?_
          intro g cap W3 hown3 hgrow3 hat3 hlt3
          have k30 := k20.grown hgrow3 (fun e => havba e.symm)
          have k31 := k21.grown hgrow3 (fun e => havbb e.symm)
          have k3B := (hst1.1.alloc (.cells #[.int .i64 (i : Int), .int .i64 a.inp, .int .i64 b.out, .int .i64 (ix : Int)] 40)).grown hgrow3 (fun e => (hst1.1.alloc (.cells #[.int .i64 (i : Int), .int .i64 a.inp, .int .i64 b.out, .int .i64 (ix : Int)] 40)).own_ne (hst1.2.2.1.alloc _) (by decide) e.symm)
          have c3 : W3.cell? ⟨B, 1, none⟩ = some (.slice va st'.arcs.length vc) := k3B.cell 1
          have f3 := k3B.frozen 1
          refine hK.out _ _ (⟨k30.cell 1, k30.cell 3, k31.cell 2, k31.cell 3⟩) (fun _ => ?_)
          clear hK K
          try simp only [Act.put, List.setIfInBounds_toArray]
          refine tk (v := ?_) 19 rfl (Or.inl ⟨by rfl, ?_⟩) ?_
          rotate_left
          ·intro w' hSw; (try dsimp only at hSw); first | (go_simp; done) | (go_simp; with_reducible rfl)
          try simp only [Act.put]
          refine tk (v := ?_) 20 rfl (Or.inl ⟨by rfl, ?_⟩) ?_
          rotate_left
          ·intro w' hSw; (try dsimp only at hSw); first | (go_simp; done) | (go_simp; with_reducible rfl)
          try simp only [Act.put]
          refine wpAnyH_ready (rs := [21]) (by as_aux_lemma => kernel_rfl) (by simp) ?_
          refine AllReadyH.cons rfl (fun K hK => ?_) AllReadyH.nil
          go_simp
          have k40 := k30.far (p := ⟨B, 1, none⟩) hneba (.slice (some ⟨g, 0, none⟩) (st'.arcs.length + 1) cap)
          have k41 := k31.far (p := ⟨B, 1, none⟩) hnebb (.slice (some ⟨g, 0, none⟩) (st'.arcs.length + 1) cap)
          refine hK.out _ _ (⟨k40.cell 1, k40.cell 3, k41.cell 2, k41.cell 3⟩) (fun _ => ?_)
          clear hK K
          try simp only [Act.put, List.setIfInBounds_toArray, List.set_cons_zero, List.set_cons_succ]
          refine wpAnyH_done (by as_aux_lemma => kernel_rfl) ?_ _
          have hfl : flat st'.arcs ++ [.int .i64 (i : Int), .int .i64 a.inp, .int .i64 b.out, .int .i64 (ix : Int)] = flat (st'.arcs ++ [⟨(i : Int), a.inp, b.out, (ix : Int)⟩]) := by rw [flat_append, flat_one]; rfl
          rw [hfl] at hown3
          have hfin := hst1.arcs_app (arcs' := st'.arcs ++ [⟨(i : Int), a.inp, b.out, (ix : Int)⟩]) (by rw [List.length_append]; exact hown3) hgrow3
          have HF := Lib.hid hfin
          clear hfin hfl k3B c1 c3 f3 hn1 hown3 hst1 hb1 hkeep1 b1 y01 y03 y12 y13
          have hm := midO_snoc (i := i) (st := st) (pre2 M.arcs N.arcs x j a k) ⟨a.inp, b.out, (a.to, b.to)⟩
          rw [← Hs2.out, ← Hst.out] at hm
          unfold stepO at hm
          dsimp only at hm
          rw [Hix.out] at hm
          have hnv : (Value.slice (some ⟨g, 0, none⟩) (st'.arcs.length + 1) cap).ownBlock ≠ some ba := fun e => by
           have e' : g = ba := by simpa [Value.ownBlock] using e
           rcases hat3 with h | h
           ·exact havba (by rw [h, e'])
           ·have := k10.lt; simp at h; omega
          have Hm := Lib.hid (And.intro hm (And.intro k40 hnv))
          clear hm hnv
          go_wp2_with fail
          exact ⟨⟨k + 1, _, _, by omega, by go_num, by rw [Hm.out.1]; exact HF.out, Hm.out.2.1, Hm.out.2.2⟩, by simp [intOf]; omega⟩
         ·skip
          go_simp
          go_at_call 27
          refine HQ.out.mono ?_
          rintro e W1 ⟨rfl, ⟨pv1, hst1⟩, hb1, hkeep1⟩
          have k10 := hkeep1 ba _ _ hneba (by decide) (Blk.drew' kk0)
          have k11 := hkeep1 bb _ _ hnebb (by decide) (Blk.drew' kk1)
          have c1 : W1.cell? ⟨B, 1, none⟩ = some (.slice va st'.arcs.length vc) := hst1.1.cell 1
          have hn1 := World.new_ne W1 ⟨B, 1, none⟩ c1
          first | go_wp2_with fail | skip
          refine hK.out _ _ (⟨k10.cell 1, k10.cell 3, k11.cell 2, k11.cell 3⟩) (fun _ => ?_)
          clear hK K
          try simp only [Act.put, List.setIfInBounds_toArray, List.set_cons_zero, List.set_cons_succ]
          refine tk (v := ?_) 16 rfl (Or.inl ⟨by rfl, ?_⟩) ?_
          rotate_left
          ·intro w' hSw; (try dsimp only at hSw); first | (go_simp; done) | (go_simp; with_reducible rfl)
          try simp only [Act.put, List.setIfInBounds_toArray]
          refine wpAnyH_ready (rs := [4, 17]) (by as_aux_lemma => kernel_rfl) (by simp) ?_
          refine AllReadyH.cons rfl (fun K hK => ?_) (AllReadyH.cons rfl (fun K hK => ?_) AllReadyH.nil)
          ·go_simp
           refine hK.out _ _ (⟨k10.cell 1, k10.cell 3, k11.cell 2, k11.cell 3⟩) (fun _ => ?_)
           clear hK K
           try simp only [Act.put, List.setIfInBounds_toArray, List.set_cons_zero, List.set_cons_succ]
           refine wpAnyH_ready (rs := [17]) (by as_aux_lemma => kernel_rfl) (by simp) ?_
           refine AllReadyH.cons rfl (fun K hK => ?_) AllReadyH.nil
           have k20 := k10.alloc (.cells #[.int .i64 (i : Int), .int .i64 a.inp, .int .i64 b.out, .int .i64 (ix : Int)] 40)
           have k21 := k11.alloc (.cells #[.int .i64 (i : Int), .int .i64 a.inp, .int .i64 b.out, .int .i64 (ix : Int)] 40)
           have c2 : (W1.alloc (.cells #[.int .i64 (i : Int), .int .i64 a.inp, .int .i64 b.out, .int .i64 (ix : Int)] 40)).cell? ⟨B, 1, none⟩ = some (.slice va st'.arcs.length vc) := (hst1.1.alloc _).cell 1
           go_simp
           refine hK.out _ _ (⟨k20.cell 1, k20.cell 3, k21.cell 2, k21.cell 3⟩) (fun _ => ?_)
           clear hK K
           try simp only [Act.put, List.setIfInBounds_toArray, List.set_cons_zero, List.set_cons_succ]
           refine wpAnyH_ready (rs := [18]) (by as_aux_lemma => kernel_rfl) (by simp) ?_
           refine AllReadyH.cons rfl (fun K hK => ?_) AllReadyH.nil
           refine step_append_lies _ (by rfl) _ _ _ (by rfl) (B + 1) 40 ja _ 4 32 Tryz.underlying23 hja1 hja2 hja3 hja4 rfl (by decide) (.slice va st'.arcs.length vc) st'.arcs.length (flat st'.arcs) (by rfl) (hst1.2.2.1.alloc _) ⟨W1.heap.size, 0, none⟩ 1 1 [.int .i64 (i : Int), .int .i64 a.inp, .int .i64 b.out, .int .i64 (ix : Int)] (by rfl) rfl (by exact cells_new _ _ _) (by simp [Value.oneCell']) (by decide) (by unfold maxLen; omega) (by omega) (by have := hst1.1.lt; simp; omega) _ rfl ?_
           intro g cap W3 hown3 hgrow3 hat3 hlt3
           have k30 := k20.grown hgrow3 (fun e => havba e.symm)
           have k31 := k21.grown hgrow3 (fun e => havbb e.symm)
           have k3B := (hst1.1.alloc (.cells #[.int .i64 (i : Int), .int .i64 a.inp, .int .i64 b.out, .int .i64 (ix : Int)] 40)).grown hgrow3 (fun e => (hst1.1.alloc (.cells #[.int .i64 (i : Int), .int .i64 a.inp, .int .i64 b.out, .int .i64 (ix : Int)] 40)).own_ne (hst1.2.2.1.alloc _) (by decide) e.symm)
           have c3 : W3.cell? ⟨B, 1, none⟩ = some (.slice va st'.arcs.length vc) := k3B.cell 1
           have f3 := k3B.frozen 1
           refine hK.out _ _ (⟨k30.cell 1, k30.cell 3, k31.cell 2, k31.cell 3⟩) (fun _ => ?_)
           clear hK K
           try simp only [Act.put, List.setIfInBounds_toArray]
           refine tk (v := ?_) 19 rfl (Or.inl ⟨by rfl, ?_⟩) ?_
           rotate_left
           ·intro w' hSw; (try dsimp only at hSw); first | (go_simp; done) | (go_simp; with_reducible rfl)
           try simp only [Act.put]
           refine tk (v := ?_) 20 rfl (Or.inl ⟨by rfl, ?_⟩) ?_
           rotate_left
           ·intro w' hSw; (try dsimp only at hSw); first | (go_simp; done) | (go_simp; with_reducible rfl)
           try simp only [Act.put]
           refine wpAnyH_ready (rs := [21]) (by as_aux_lemma => kernel_rfl) (by simp) ?_
           refine AllReadyH.cons rfl (fun K hK => ?_) AllReadyH.nil
           go_simp
           have k40 := k30.far (p := ⟨B, 1, none⟩) hneba (.slice (some ⟨g, 0, none⟩) (st'.arcs.length + 1) cap)
           have k41 := k31.far (p := ⟨B, 1, none⟩) hnebb (.slice (some ⟨g, 0, none⟩) (st'.arcs.length + 1) cap)
           refine hK.out _ _ (⟨k40.cell 1, k40.cell 3, k41.cell 2, k41.cell 3⟩) (fun _ => ?_)
           clear hK K
           try simp only [Act.put, List.setIfInBounds_toArray, List.set_cons_zero, List.set_cons_succ]
           refine wpAnyH_done (by as_aux_lemma => kernel_rfl) ?_ _
           have hfl : flat st'.arcs ++ [.int .i64 (i : Int), .int .i64 a.inp, .int .i64 b.out, .int .i64 (ix : Int)] = flat (st'.arcs ++ [⟨(i : Int), a.inp, b.out, (ix : Int)⟩]) := by rw [flat_append, flat_one]; rfl
           rw [hfl] at hown3
           have hfin := hst1.arcs_app (arcs' := st'.arcs ++ [⟨(i : Int), a.inp, b.out, (ix : Int)⟩]) (by rw [List.length_append]; exact hown3) hgrow3
           have HF := Lib.hid hfin
           clear hfin hfl k3B c1 c3 f3 hn1 hown3 hst1 hb1 hkeep1 b1 y01 y03 y12 y13
           have hm := midO_snoc (i := i) (st := st) (pre2 M.arcs N.arcs x j a k) ⟨a.inp, b.out, (a.to, b.to)⟩
           rw [← Hs2.out, ← Hst.out] at hm
           unfold stepO at hm
           dsimp only at hm
           rw [Hix.out] at hm
           have hnv : (Value.slice (some ⟨g, 0, none⟩) (st'.arcs.length + 1) cap).ownBlock ≠ some ba := fun e => by
            have e' : g = ba := by simpa [Value.ownBlock] using e
            rcases hat3 with h | h
            ·exact havba (by rw [h, e'])
            ·have := k10.lt; simp at h; omega
           have Hm := Lib.hid (And.intro hm (And.intro k40 hnv))
           clear hm hnv
           go_wp2_with fail
           exact ⟨⟨k + 1, _, _, by omega, by go_num, by rw [Hm.out.1]; exact HF.out, Hm.out.2.1, Hm.out.2.2⟩, by simp [intOf]; omega⟩
          ·skip
           have k20 := k10.alloc (.cells #[.int .i64 (i : Int), .int .i64 a.inp, .int .i64 b.out, .int .i64 (ix : Int)] 40)
           have k21 := k11.alloc (.cells #[.int .i64 (i : Int), .int .i64 a.inp, .int .i64 b.out, .int .i64 (ix : Int)] 40)
           have c2 : (W1.alloc (.cells #[.int .i64 (i : Int), .int .i64 a.inp, .int .i64 b.out, .int .i64 (ix : Int)] 40)).cell? ⟨B, 1, none⟩ = some (.slice va st'.arcs.length vc) := (hst1.1.alloc _).cell 1
           go_simp
           refine hK.out _ _ (⟨k20.cell 1, k20.cell 3, k21.cell 2, k21.cell 3⟩) (fun _ => ?_)
           clear hK K
           try simp only [Act.put, List.setIfInBounds_toArray, List.set_cons_zero, List.set_cons_succ]
           refine wpAnyH_ready (rs := [4]) (by as_aux_lemma => kernel_rfl) (by simp) ?_
           refine AllReadyH.cons rfl (fun K hK => ?_) AllReadyH.nil
           go_simp
           refine hK.out _ _ (⟨k20.cell 1, k20.cell 3, k21.cell 2, k21.cell 3⟩) (fun _ => ?_)
           clear hK K
           try simp only [Act.put, List.setIfInBounds_toArray, List.set_cons_zero, List.set_cons_succ]
           refine wpAnyH_ready (rs := [18]) (by as_aux_lemma => kernel_rfl) (by simp) ?_
           refine AllReadyH.cons rfl (fun K hK => ?_) AllReadyH.nil
           refine step_append_lies _ (by rfl) _ _ _ (by rfl) (B + 1) 40 ja _ 4 32 Tryz.underlying23 hja1 hja2 hja3 hja4 rfl (by decide) (.slice va st'.arcs.length vc) st'.arcs.length (flat st'.arcs) (by rfl) (hst1.2.2.1.alloc _) ⟨W1.heap.size, 0, none⟩ 1 1 [.int .i64 (i : Int), .int .i64 a.inp, .int .i64 b.out, .int .i64 (ix : Int)] (by rfl) rfl (by exact cells_new _ _ _) (by simp [Value.oneCell']) (by decide) (by unfold maxLen; omega) (by omega) (by have := hst1.1.lt; simp; omega) _ rfl ?_
           intro g cap W3 hown3 hgrow3 hat3 hlt3
           have k30 := k20.grown hgrow3 (fun e => havba e.symm)
           have k31 := k21.grown hgrow3 (fun e => havbb e.symm)
           have k3B := (hst1.1.alloc (.cells #[.int .i64 (i : Int), .int .i64 a.inp, .int .i64 b.out, .int .i64 (ix : Int)] 40)).grown hgrow3 (fun e => (hst1.1.alloc (.cells #[.int .i64 (i : Int), .int .i64 a.inp, .int .i64 b.out, .int .i64 (ix : Int)] 40)).own_ne (hst1.2.2.1.alloc _) (by decide) e.symm)
           have c3 : W3.cell? ⟨B, 1, none⟩ = some (.slice va st'.arcs.length vc) := k3B.cell 1
           have f3 := k3B.frozen 1
           refine hK.out _ _ (⟨k30.cell 1, k30.cell 3, k31.cell 2, k31.cell 3⟩) (fun _ => ?_)
           clear hK K
           try simp only [Act.put, List.setIfInBounds_toArray]
           refine tk (v := ?_) 19 rfl (Or.inl ⟨by rfl, ?_⟩) ?_
           rotate_left
           ·intro w' hSw; (try dsimp only at hSw); first | (go_simp; done) | (go_simp; with_reducible rfl)
           try simp only [Act.put]
           refine tk (v := ?_) 20 rfl (Or.inl ⟨by rfl, ?_⟩) ?_
           rotate_left
           ·intro w' hSw; (try dsimp only at hSw); first | (go_simp; done) | (go_simp; with_reducible rfl)
           try simp only [Act.put]
           refine wpAnyH_ready (rs := [21]) (by as_aux_lemma => kernel_rfl) (by simp) ?_
           refine AllReadyH.cons rfl (fun K hK => ?_) AllReadyH.nil
           go_simp
           have k40 := k30.far (p := ⟨B, 1, none⟩) hneba (.slice (some ⟨g, 0, none⟩) (st'.arcs.length + 1) cap)
           have k41 := k31.far (p := ⟨B, 1, none⟩) hnebb (.slice (some ⟨g, 0, none⟩) (st'.arcs.length + 1) cap)
           refine hK.out _ _ (⟨k40.cell 1, k40.cell 3, k41.cell 2, k41.cell 3⟩) (fun _ => ?_)
           clear hK K
           try simp only [Act.put, List.setIfInBounds_toArray, List.set_cons_zero, List.set_cons_succ]
           refine wpAnyH_done (by as_aux_lemma => kernel_rfl) ?_ _
           have hfl : flat st'.arcs ++ [.int .i64 (i : Int), .int .i64 a.inp, .int .i64 b.out, .int .i64 (ix : Int)] = flat (st'.arcs ++ [⟨(i : Int), a.inp, b.out, (ix : Int)⟩]) := by rw [flat_append, flat_one]; rfl
           rw [hfl] at hown3
           have hfin := hst1.arcs_app (arcs' := st'.arcs ++ [⟨(i : Int), a.inp, b.out, (ix : Int)⟩]) (by rw [List.length_append]; exact hown3) hgrow3
           have HF := Lib.hid hfin
           clear hfin hfl k3B c1 c3 f3 hn1 hown3 hst1 hb1 hkeep1 b1 y01 y03 y12 y13
           have hm := midO_snoc (i := i) (st := st) (pre2 M.arcs N.arcs x j a k) ⟨a.inp, b.out, (a.to, b.to)⟩
           rw [← Hs2.out, ← Hst.out] at hm
           unfold stepO at hm
           dsimp only at hm
           rw [Hix.out] at hm
           have hnv : (Value.slice (some ⟨g, 0, none⟩) (st'.arcs.length + 1) cap).ownBlock ≠ some ba := fun e => by
            have e' : g = ba := by simpa [Value.ownBlock] using e
            rcases hat3 with h | h
            ·exact havba (by rw [h, e'])
            ·have := k10.lt; simp at h; omega
           have Hm := Lib.hid (And.intro hm (And.intro k40 hnv))
           clear hm hnv
           go_wp2_with fail
           exact ⟨⟨k + 1, _, _, by omega, by go_num, by rw [Hm.out.1]; exact HF.out, Hm.out.2.1, Hm.out.2.2⟩, by simp [intOf]; omega⟩
        ·have Hs2 := Lib.hid (HL.out.2.2 hq)
         by_cases hq1 : b.frm = x.2
         ·have d3 : (b.frm == x.2) = true := by simp [hq1]
          have d4 : (b.inp == a.out) = false := by rw [beq_eq_false_iff_ne]; exact fun h => hq ⟨hq1, h⟩
          clear hq hq1
          go_wp2_with fail
          exact ⟨⟨k + 1, pv, av, by omega, by go_num, by rw [Hs2.out]; exact HK.out.1, HK.out.2.1, Hav.out⟩, by simp [intOf]; omega⟩
         ·have d3 : (b.frm == x.2) = false := by simp [hq1]
          clear hq hq1
          go_wp2_with fail
          exact ⟨⟨k + 1, pv, av, by omega, by go_num, by rw [Hs2.out]; exact HK.out.1, HK.out.2.1, Hav.out⟩, by simp [intOf]; omega⟩
       ·obtain rfl : k = N.arcs.length := by omega
        have n3 := kn.c3
        have HK := Lib.hid hst
        clear kn hst ka havba
        go_wp2_with fail
        exact ⟨⟨j + 1, pv, av, by omega, by go_num, by rw [Hs.out]; exact HK.out⟩, by simp [intOf]; omega⟩
    ·obtain rfl : j = M.arcs.length := by omega
     have m3 := km.c3
     rw [pre1_all] at hst
     have HK := Lib.hid hst
     clear kn km hst hj hjl
     go_wp2_with fail
     clear m3
     go_loopw [14] (fun s wx => ∃ (k : Nat) (pv av : Value), k ≤ N.arcs.length ∧ s = .int .i64 k ∧ BSt w2 B pv av (midO i st (pre3 M.arcs N.arcs x k)).ord (midO i st (pre3 M.arcs N.arcs x k)).arcs wx) (fun s _ => N.arcs.length - (intOf s).toNat)
     case atStart => exact ⟨0, _, _, Nat.zero_le _, rfl, HK.out⟩
     case round =>
      obtain ⟨k, pv, av, hk, rfl, hst⟩ := hrel
      obtain ⟨wk, rfl⟩ : ∃ wk : World, wk = wr := ⟨_, rfl⟩
      obtain ⟨⟨kn, -, -⟩, -⟩ := FS.out wk hst.2.2.2
      by_cases hkl : k < N.arcs.length
      ·have hmi := HX.out.1 _ (pre3_le k)
       obtain ⟨nb, no, rfl, -, hcn⟩ := kn.arcs.arcs (by omega)
       obtain ⟨e0, e1, e2, e3⟩ := hcn k hkl
       have h1 := pre3_yes (m := M.arcs) (x := x) hkl
       have h2 := pre3_no (m := M.arcs) (x := x) hkl
       obtain ⟨b, hb'⟩ : ∃ b, N.arcs[k] = b := ⟨_, rfl⟩
       rw [hb'] at e0 e1 e2 e3 h1 h2
       have HL := Lib.hid (And.intro hmi (And.intro h1 h2))
       have n3 := kn.c3
       clear hmi hcn h1 h2 hb' kn
       go_upto_region 27 with (fail)
       generalize hW : (wk.alloc _) = W
       obtain ⟨bb, hbb⟩ : ∃ b, wk.heap.size = b := ⟨_, rfl⟩
       have hbl : Below wk.heap.size wk W := by rw [← hW]; exact (Below.refl _ _).alloc (Nat.le_refl _) _
       have kb : Blk W bb #[.int .i64 b.frm, .int .i64 b.inp, .int .i64 b.out, .int .i64 b.to] 40 := by rw [← hW, ← hbb]; exact Blk.new _ _ _
       have hsW := hst.below hbl
       have hnebb : bb ≠ B := by have := hst.1.lt; omega
       have havbb : av.ownBlock ≠ some bb := fun e => by have := (hst.2.2.1.lt _ e).2; omega
       rw [hbb]
       have x0 : W.cell? ⟨bb, 0, none⟩ = some (.int .i64 b.frm) := kb.cell 0
       have x1 : W.cell? ⟨bb, 1, none⟩ = some (.int .i64 b.inp) := kb.cell 1
       have HK := Lib.hid (And.intro hsW kb)
       clear hW hbb hbl kb hsW hst e0 e1 e2 e3 n3
       by_cases hq : b.frm = x.2 ∧ b.inp = 0
       ·have d3 : (b.frm == x.2) = true := by simp [hq.1]
        have d4 : (b.inp == 0) = true := by simp [hq.2]
        have Hs2 := Lib.hid (HL.out.2.1 hq)
        have hal := HL.out.1.arcs_le HV.out.1 HV.out.2 (by omega)
        have hbo := HL.out.1.ord_le HV.out.1 HV.out.2
        obtain ⟨st', hst'⟩ : ∃ s, s = midO i st (pre3 M.arcs N.arcs x k) := ⟨_, rfl⟩
        rw [← hst'] at hal hbo
        have hk2 := HK.out
        rw [← hst'] at hk2
        have Hst := Lib.hid hst'
        obtain ⟨va, vc, rfl, -, -⟩ := RowAt.of_own hk2.1.2.2.1
        have H := Lib.hid hk2
        clear hst' hk2 HK hq
        go_upto_region 28 with (fail)
        have hnum := number14_any st'.ord st'.arcs (x.1, b.to) hbo w2 B pv (.slice va st'.arcs.length vc) W.drew H.out.1.drew
        dsimp only at hnum
        have hix : ∃ ix : Nat, (addO st'.ord (x.1, b.to)).idxOf (x.1, b.to) = ix := ⟨_, rfl⟩
        obtain ⟨ix, hix⟩ := hix
        rw [hix] at hnum
        have HQ := Lib.hid hnum
        have Hix := Lib.hid hix
        clear hnum hix
        have b1 : W.cell? ⟨B, 1, none⟩ = some (.slice va st'.arcs.length vc) := H.out.1.1.cell 1
        have kk0 := H.out.2
        have y02 : W.cell? ⟨bb, 2, none⟩ = some (.int .i64 b.out) := kk0.cell 2
        have y03 : W.cell? ⟨bb, 3, none⟩ = some (.int .i64 b.to) := kk0.cell 3
        refine wp_region_held_drew (S := fun w' : World => w'.cell? ⟨bb, 2, none⟩ = some (.int .i64 b.out) ∧ w'.cell? ⟨bb, 3, none⟩ = some (.int .i64 b.to)) (by kernel_rfl) ⟨y02, y03⟩ (fun hHeld => ?_)
        refine tk (v := ?_) 0 rfl (Or.inl ⟨by rfl, ?_⟩) ?_
        rotate_left
        ·intro w' hSw; (try dsimp only at hSw); first | (go_simp; done) | (go_simp; with_reducible rfl)
        try simp only [Act.put, List.setIfInBounds_toArray]
        refine tk (v := ?_) 1 rfl (Or.inl ⟨by rfl, ?_⟩) ?_
        rotate_left
        ·intro w' hSw; (try dsimp only at hSw); first | (go_simp; done) | (go_simp; with_reducible rfl)
        try simp only [Act.put]
        refine tk (v := ?_) 2 rfl (Or.inl ⟨by rfl, ?_⟩) ?_
        rotate_left
        ·intro w' hSw; (try dsimp only at hSw); first | (go_simp; done) | (go_simp; with_reducible rfl)
        try simp only [Act.put]
        refine tk (v := ?_) 3 rfl (Or.inl ⟨by rfl, ?_⟩) ?_
        rotate_left
        ·intro w' hSw; (try dsimp only at hSw); first | (go_simp; done) | (go_simp; with_reducible rfl)
        try simp only [Act.put]
        refine tk (v := ?_) 5 rfl (Or.inl ⟨by rfl, ?_⟩) ?_
        rotate_left
        ·intro w' hSw; (try dsimp only at hSw); first | (go_simp; done) | (go_simp; with_reducible rfl)
        try simp only [Act.put]
        refine tk (v := ?_) 6 rfl (Or.inl ⟨by rfl, ?_⟩) ?_
        rotate_left
        ·intro w' hSw; (try dsimp only at hSw); first | (go_simp; done) | (go_simp; with_reducible rfl)
        try simp only [Act.put]
        refine tk (v := ?_) 7 rfl (Or.inl ⟨by rfl, ?_⟩) ?_
        rotate_left
        ·intro w' hSw; (try dsimp only at hSw); first | (go_simp; done) | (go_simp; with_reducible rfl)
        try simp only [Act.put]
        refine tk (v := ?_) 8 rfl (Or.inl ⟨by rfl, ?_⟩) ?_
        rotate_left
        ·intro w' hSw; (try dsimp only at hSw); first | (go_simp; done) | (go_simp; with_reducible rfl)
        try simp only [Act.put]
        refine tk (v := ?_) 9 rfl (Or.inl ⟨by rfl, ?_⟩) ?_
        rotate_left
        ·intro w' hSw; (try dsimp only at hSw); first | (go_simp; done) | (go_simp; with_reducible rfl)
        try simp only [Act.put]
        refine tk (v := ?_) 10 rfl (Or.inl ⟨by rfl, ?_⟩) ?_
        rotate_left
        ·intro w' hSw; (try dsimp only at hSw); first | (go_simp; done) | (go_simp; with_reducible rfl)
        try simp only [Act.put]
        refine tk (v := ?_) 11 rfl (Or.inl ⟨by rfl, ?_⟩) ?_
        rotate_left
        ·intro w' hSw; (try dsimp only at hSw); first | (go_simp; done) | (go_simp; with_reducible rfl)
        try simp only [Act.put]
        refine wpAnyH_ready (rs := [4, 12]) (by as_aux_lemma => kernel_rfl) (by simp) ?_
        refine AllReadyH.cons rfl (fun K hK => ?_) (AllReadyH.cons rfl (fun K hK => ?_) AllReadyH.nil)
        ·go_simp
         refine hK.out _ _ (hHeld) (fun _ => ?_)
         clear hK K
         try simp only [Act.put, List.setIfInBounds_toArray, List.set_cons_zero, List.set_cons_succ]
         refine wpAnyH_ready (rs := [12]) (by as_aux_lemma => kernel_rfl) (by simp) ?_
         refine AllReadyH.cons rfl (fun K hK => ?_) AllReadyH.nil
         go_simp
         go_at_call 27
         refine HQ.out.mono ?_
         rintro e W1 ⟨rfl, ⟨pv1, hst1⟩, hb1, hkeep1⟩
         have k10 := hkeep1 bb _ _ hnebb (by decide) (Blk.drew' kk0)
         have c1 : W1.cell? ⟨B, 1, none⟩ = some (.slice va st'.arcs.length vc) := hst1.1.cell 1
         have hn1 := World.new_ne W1 ⟨B, 1, none⟩ c1
         first | go_wp2_with fail | skip
         refine hK.out _ _ (⟨k10.cell 2, k10.cell 3⟩) (fun _ => ?_)
         clear hK K
         try simp only [Act.put, List.setIfInBounds_toArray, List.set_cons_zero, List.set_cons_succ]
         refine tk (v := ?_) 13 rfl (Or.inl ⟨by rfl, ?_⟩) ?_
         rotate_left
         ·intro w' hSw; (try dsimp only at hSw); first | (go_simp; done) | (go_simp; with_reducible rfl)
         try simp only [Act.put, List.setIfInBounds_toArray]
         refine wpAnyH_ready (rs := [14]) (by as_aux_lemma => kernel_rfl) (by simp) ?_
         refine AllReadyH.cons rfl (fun K hK => ?_) AllReadyH.nil
         have k20 := k10.alloc (.cells #[.int .i64 (i : Int), .int .i64 0, .int .i64 b.out, .int .i64 (ix : Int)] 40)
         have c2 : (W1.alloc (.cells #[.int .i64 (i : Int), .int .i64 0, .int .i64 b.out, .int .i64 (ix : Int)] 40)).cell? ⟨B, 1, none⟩ = some (.slice va st'.arcs.length vc) := (hst1.1.alloc _).cell 1
         go_simp
         refine hK.out _ _ (⟨k20.cell 2, k20.cell 3⟩) (fun _ => ?_)
         clear hK K
         try simp only [Act.put, List.setIfInBounds_toArray, List.set_cons_zero, List.set_cons_succ]
         refine wpAnyH_ready (rs := [15]) (by as_aux_lemma => kernel_rfl) (by simp) ?_
         refine AllReadyH.cons rfl (fun K hK => ?_) AllReadyH.nil
         refine step_append_lies _ (by rfl) _ _ _ (by rfl) (B + 1) 40 ja _ 4 32 Tryz.underlying23 hja1 hja2 hja3 hja4 rfl (by decide) (.slice va st'.arcs.length vc) st'.arcs.length (flat st'.arcs) (by rfl) (hst1.2.2.1.alloc _) ⟨W1.heap.size, 0, none⟩ 1 1 [.int .i64 (i : Int), .int .i64 0, .int .i64 b.out, .int .i64 (ix : Int)] (by rfl) rfl (by exact cells_new _ _ _) (by simp [Value.oneCell']) (by decide) (by unfold maxLen; omega) (by omega) (by have := hst1.1.lt; simp; omega) _ rfl ?_
         intro g cap W3 hown3 hgrow3 hat3 hlt3
         have k30 := k20.grown hgrow3 (fun e => havbb e.symm)
         have k3B := (hst1.1.alloc (.cells #[.int .i64 (i : Int), .int .i64 0, .int .i64 b.out, .int .i64 (ix : Int)] 40)).grown hgrow3 (fun e => (hst1.1.alloc (.cells #[.int .i64 (i : Int), .int .i64 0, .int .i64 b.out, .int .i64 (ix : Int)] 40)).own_ne (hst1.2.2.1.alloc _) (by decide) e.symm)
         have c3 : W3.cell? ⟨B, 1, none⟩ = some (.slice va st'.arcs.length vc) := k3B.cell 1
         have f3 := k3B.frozen 1
         refine hK.out _ _ (⟨k30.cell 2, k30.cell 3⟩) (fun _ => ?_)
         clear hK K
         try simp only [Act.put, List.setIfInBounds_toArray]
         refine tk (v := ?_) 16 rfl (Or.inl ⟨by rfl, ?_⟩) ?_
         rotate_left
         ·intro w' hSw; (try dsimp only at hSw); first | (go_simp; done) | (go_simp; with_reducible rfl)
         try simp only [Act.put]
         refine tk (v := ?_) 17 rfl (Or.inl ⟨by rfl, ?_⟩) ?_
         rotate_left
         ·intro w' hSw; (try dsimp only at hSw); first | (go_simp; done) | (go_simp; with_reducible rfl)
         try simp only [Act.put]
         refine wpAnyH_ready (rs := [18]) (by as_aux_lemma => kernel_rfl) (by simp) ?_
         refine AllReadyH.cons rfl (fun K hK => ?_) AllReadyH.nil
         go_simp
         have k40 := k30.far (p := ⟨B, 1, none⟩) hnebb (.slice (some ⟨g, 0, none⟩) (st'.arcs.length + 1) cap)
         refine hK.out _ _ (⟨k40.cell 2, k40.cell 3⟩) (fun _ => ?_)
         clear hK K
         try simp only [Act.put, List.setIfInBounds_toArray, List.set_cons_zero, List.set_cons_succ]
         refine wpAnyH_done (by as_aux_lemma => kernel_rfl) ?_ _
         have hfl : flat st'.arcs ++ [.int .i64 (i : Int), .int .i64 0, .int .i64 b.out, .int .i64 (ix : Int)] = flat (st'.arcs ++ [⟨(i : Int), 0, b.out, (ix : Int)⟩]) := by rw [flat_append, flat_one]; rfl
         rw [hfl] at hown3
         have hfin := hst1.arcs_app (arcs' := st'.arcs ++ [⟨(i : Int), 0, b.out, (ix : Int)⟩]) (by rw [List.length_append]; exact hown3) hgrow3
         have HF := Lib.hid hfin
         clear hfin hfl k3B c1 c3 f3 hn1 hown3 hst1 hb1 hkeep1 b1 y02 y03
         have hm := midO_snoc (i := i) (st := st) (pre3 M.arcs N.arcs x k) ⟨0, b.out, (x.1, b.to)⟩
         rw [← Hs2.out, ← Hst.out] at hm
         unfold stepO at hm
         dsimp only at hm
         rw [Hix.out] at hm
         have Hm := Lib.hid hm
         clear hm
         go_wp2_with fail
         exact ⟨⟨k + 1, _, _, by omega, by go_num, by rw [Hm.out]; exact HF.out⟩, by simp [intOf]; omega⟩
        ·skip
         go_simp
         go_at_call 27
         refine HQ.out.mono ?_
         rintro e W1 ⟨rfl, ⟨pv1, hst1⟩, hb1, hkeep1⟩
         have k10 := hkeep1 bb _ _ hnebb (by decide) (Blk.drew' kk0)
         have c1 : W1.cell? ⟨B, 1, none⟩ = some (.slice va st'.arcs.length vc) := hst1.1.cell 1
         have hn1 := World.new_ne W1 ⟨B, 1, none⟩ c1
         first | go_wp2_with fail | skip
         refine hK.out _ _ (⟨k10.cell 2, k10.cell 3⟩) (fun _ => ?_)
         clear hK K
         try simp only [Act.put, List.setIfInBounds_toArray, List.set_cons_zero, List.set_cons_succ]
         refine tk (v := ?_) 13 rfl (Or.inl ⟨by rfl, ?_⟩) ?_
         rotate_left
         ·intro w' hSw; (try dsimp only at hSw); first | (go_simp; done) | (go_simp; with_reducible rfl)
         try simp only [Act.put, List.setIfInBounds_toArray]
         refine wpAnyH_ready (rs := [4, 14]) (by as_aux_lemma => kernel_rfl) (by simp) ?_
         refine AllReadyH.cons rfl (fun K hK => ?_) (AllReadyH.cons rfl (fun K hK => ?_) AllReadyH.nil)
         ·go_simp
          refine hK.out _ _ (⟨k10.cell 2, k10.cell 3⟩) (fun _ => ?_)
          clear hK K
          try simp only [Act.put, List.setIfInBounds_toArray, List.set_cons_zero, List.set_cons_succ]
          refine wpAnyH_ready (rs := [14]) (by as_aux_lemma => kernel_rfl) (by simp) ?_
          refine AllReadyH.cons rfl (fun K hK => ?_) AllReadyH.nil
          have k20 := k10.alloc (.cells #[.int .i64 (i : Int), .int .i64 0, .int .i64 b.out, .int .i64 (ix : Int)] 40)
          have c2 : (W1.alloc (.cells #[.int .i64 (i : Int), .int .i64 0, .int .i64 b.out, .int .i64 (ix : Int)] 40)).cell? ⟨B, 1, none⟩ = some (.slice va st'.arcs.length vc) := (hst1.1.alloc _).cell 1
          go_simp
          refine hK.out _ _ (⟨k20.cell 2, k20.cell 3⟩) (fun _ => ?_)
          clear hK K
          try simp only [Act.put, List.setIfInBounds_toArray, List.set_cons_zero, List.set_cons_succ]
          refine wpAnyH_ready (rs := [15]) (by as_aux_lemma => kernel_rfl) (by simp) ?_
          refine AllReadyH.cons rfl (fun K hK => ?_) AllReadyH.nil
          refine step_append_lies _ (by rfl) _ _ _ (by rfl) (B + 1) 40 ja _ 4 32 Tryz.underlying23 hja1 hja2 hja3 hja4 rfl (by decide) (.slice va st'.arcs.length vc) st'.arcs.length (flat st'.arcs) (by rfl) (hst1.2.2.1.alloc _) ⟨W1.heap.size, 0, none⟩ 1 1 [.int .i64 (i : Int), .int .i64 0, .int .i64 b.out, .int .i64 (ix : Int)] (by rfl) rfl (by exact cells_new _ _ _) (by simp [Value.oneCell']) (by decide) (by unfold maxLen; omega) (by omega) (by have := hst1.1.lt; simp; omega) _ rfl ?_
          intro g cap W3 hown3 hgrow3 hat3 hlt3
          have k30 := k20.grown hgrow3 (fun e => havbb e.symm)
          have k3B := (hst1.1.alloc (.cells #[.int .i64 (i : Int), .int .i64 0, .int .i64 b.out, .int .i64 (ix : Int)] 40)).grown hgrow3 (fun e => (hst1.1.alloc (.cells #[.int .i64 (i : Int), .int .i64 0, .int .i64 b.out, .int .i64 (ix : Int)] 40)).own_ne (hst1.2.2.1.alloc _) (by decide) e.symm)
          have c3 : W3.cell? ⟨B, 1, none⟩ = some (.slice va st'.arcs.length vc) := k3B.cell 1
          have f3 := k3B.frozen 1
          refine hK.out _ _ (⟨k30.cell 2, k30.cell 3⟩) (fun _ => ?_)
          clear hK K
          try simp only [Act.put, List.setIfInBounds_toArray]
          refine tk (v := ?_) 16 rfl (Or.inl ⟨by rfl, ?_⟩) ?_
          rotate_left
          ·intro w' hSw; (try dsimp only at hSw); first | (go_simp; done) | (go_simp; with_reducible rfl)
          try simp only [Act.put]
          refine tk (v := ?_) 17 rfl (Or.inl ⟨by rfl, ?_⟩) ?_
          rotate_left
          ·intro w' hSw; (try dsimp only at hSw); first | (go_simp; done) | (go_simp; with_reducible rfl)
          try simp only [Act.put]
          refine wpAnyH_ready (rs := [18]) (by as_aux_lemma => kernel_rfl) (by simp) ?_
          refine AllReadyH.cons rfl (fun K hK => ?_) AllReadyH.nil
          go_simp
          have k40 := k30.far (p := ⟨B, 1, none⟩) hnebb (.slice (some ⟨g, 0, none⟩) (st'.arcs.length + 1) cap)
          refine hK.out _ _ (⟨k40.cell 2, k40.cell 3⟩) (fun _ => ?_)
          clear hK K
          try simp only [Act.put, List.setIfInBounds_toArray, List.set_cons_zero, List.set_cons_succ]
          refine wpAnyH_done (by as_aux_lemma => kernel_rfl) ?_ _
          have hfl : flat st'.arcs ++ [.int .i64 (i : Int), .int .i64 0, .int .i64 b.out, .int .i64 (ix : Int)] = flat (st'.arcs ++ [⟨(i : Int), 0, b.out, (ix : Int)⟩]) := by rw [flat_append, flat_one]; rfl
          rw [hfl] at hown3
          have hfin := hst1.arcs_app (arcs' := st'.arcs ++ [⟨(i : Int), 0, b.out, (ix : Int)⟩]) (by rw [List.length_append]; exact hown3) hgrow3
          have HF := Lib.hid hfin
          clear hfin hfl k3B c1 c3 f3 hn1 hown3 hst1 hb1 hkeep1 b1 y02 y03
          have hm := midO_snoc (i := i) (st := st) (pre3 M.arcs N.arcs x k) ⟨0, b.out, (x.1, b.to)⟩
          rw [← Hs2.out, ← Hst.out] at hm
          unfold stepO at hm
          dsimp only at hm
          rw [Hix.out] at hm
          have Hm := Lib.hid hm
          clear hm
          go_wp2_with fail
          exact ⟨⟨k + 1, _, _, by omega, by go_num, by rw [Hm.out]; exact HF.out⟩, by simp [intOf]; omega⟩
         ·skip
          have k20 := k10.alloc (.cells #[.int .i64 (i : Int), .int .i64 0, .int .i64 b.out, .int .i64 (ix : Int)] 40)
          have c2 : (W1.alloc (.cells #[.int .i64 (i : Int), .int .i64 0, .int .i64 b.out, .int .i64 (ix : Int)] 40)).cell? ⟨B, 1, none⟩ = some (.slice va st'.arcs.length vc) := (hst1.1.alloc _).cell 1
          go_simp
          refine hK.out _ _ (⟨k20.cell 2, k20.cell 3⟩) (fun _ => ?_)
          clear hK K
          try simp only [Act.put, List.setIfInBounds_toArray, List.set_cons_zero, List.set_cons_succ]
          refine wpAnyH_ready (rs := [4]) (by as_aux_lemma => kernel_rfl) (by simp) ?_
          refine AllReadyH.cons rfl (fun K hK => ?_) AllReadyH.nil
          go_simp
          refine hK.out _ _ (⟨k20.cell 2, k20.cell 3⟩) (fun _ => ?_)
          clear hK K
          try simp only [Act.put, List.setIfInBounds_toArray, List.set_cons_zero, List.set_cons_succ]
          refine wpAnyH_ready (rs := [15]) (by as_aux_lemma => kernel_rfl) (by simp) ?_
          refine AllReadyH.cons rfl (fun K hK => ?_) AllReadyH.nil
          refine step_append_lies _ (by rfl) _ _ _ (by rfl) (B + 1) 40 ja _ 4 32 Tryz.underlying23 hja1 hja2 hja3 hja4 rfl (by decide) (.slice va st'.arcs.length vc) st'.arcs.length (flat st'.arcs) (by rfl) (hst1.2.2.1.alloc _) ⟨W1.heap.size, 0, none⟩ 1 1 [.int .i64 (i : Int), .int .i64 0, .int .i64 b.out, .int .i64 (ix : Int)] (by rfl) rfl (by exact cells_new _ _ _) (by simp [Value.oneCell']) (by decide) (by unfold maxLen; omega) (by omega) (by have := hst1.1.lt; simp; omega) _ rfl ?_
          intro g cap W3 hown3 hgrow3 hat3 hlt3
          have k30 := k20.grown hgrow3 (fun e => havbb e.symm)
          have k3B := (hst1.1.alloc (.cells #[.int .i64 (i : Int), .int .i64 0, .int .i64 b.out, .int .i64 (ix : Int)] 40)).grown hgrow3 (fun e => (hst1.1.alloc (.cells #[.int .i64 (i : Int), .int .i64 0, .int .i64 b.out, .int .i64 (ix : Int)] 40)).own_ne (hst1.2.2.1.alloc _) (by decide) e.symm)
          have c3 : W3.cell? ⟨B, 1, none⟩ = some (.slice va st'.arcs.length vc) := k3B.cell 1
          have f3 := k3B.frozen 1
          refine hK.out _ _ (⟨k30.cell 2, k30.cell 3⟩) (fun _ => ?_)
          clear hK K
          try simp only [Act.put, List.setIfInBounds_toArray]
          refine tk (v := ?_) 16 rfl (Or.inl ⟨by rfl, ?_⟩) ?_
          rotate_left
          ·intro w' hSw; (try dsimp only at hSw); first | (go_simp; done) | (go_simp; with_reducible rfl)
          try simp only [Act.put]
          refine tk (v := ?_) 17 rfl (Or.inl ⟨by rfl, ?_⟩) ?_
          rotate_left
          ·intro w' hSw; (try dsimp only at hSw); first | (go_simp; done) | (go_simp; with_reducible rfl)
          try simp only [Act.put]
          refine wpAnyH_ready (rs := [18]) (by as_aux_lemma => kernel_rfl) (by simp) ?_
          refine AllReadyH.cons rfl (fun K hK => ?_) AllReadyH.nil
          go_simp
          have k40 := k30.far (p := ⟨B, 1, none⟩) hnebb (.slice (some ⟨g, 0, none⟩) (st'.arcs.length + 1) cap)
          refine hK.out _ _ (⟨k40.cell 2, k40.cell 3⟩) (fun _ => ?_)
          clear hK K
          try simp only [Act.put, List.setIfInBounds_toArray, List.set_cons_zero, List.set_cons_succ]
          refine wpAnyH_done (by as_aux_lemma => kernel_rfl) ?_ _
          have hfl : flat st'.arcs ++ [.int .i64 (i : Int), .int .i64 0, .int .i64 b.out, .int .i64 (ix : Int)] = flat (st'.arcs ++ [⟨(i : Int), 0, b.out, (ix : Int)⟩]) := by rw [flat_append, flat_one]; rfl
          rw [hfl] at hown3
          have hfin := hst1.arcs_app (arcs' := st'.arcs ++ [⟨(i : Int), 0, b.out, (ix : Int)⟩]) (by rw [List.length_append]; exact hown3) hgrow3
          have HF := Lib.hid hfin
          clear hfin hfl k3B c1 c3 f3 hn1 hown3 hst1 hb1 hkeep1 b1 y02 y03
          have hm := midO_snoc (i := i) (st := st) (pre3 M.arcs N.arcs x k) ⟨0, b.out, (x.1, b.to)⟩
          rw [← Hs2.out, ← Hst.out] at hm
          unfold stepO at hm
          dsimp only at hm
          rw [Hix.out] at hm
          have Hm := Lib.hid hm
          clear hm
          go_wp2_with fail
          exact ⟨⟨k + 1, _, _, by omega, by go_num, by rw [Hm.out]; exact HF.out⟩, by simp [intOf]; omega⟩
       ·have Hs2 := Lib.hid (HL.out.2.2 hq)
        by_cases hq1 : b.frm = x.2
        ·have d3 : (b.frm == x.2) = true := by simp [hq1]
         have d4 : (b.inp == 0) = false := by rw [beq_eq_false_iff_ne]; exact fun h => hq ⟨hq1, h⟩
         clear hq hq1
         go_wp2_with fail
         exact ⟨⟨k + 1, pv, av, by omega, by go_num, by rw [Hs2.out]; exact HK.out.1⟩, by simp [intOf]; omega⟩
        ·have d3 : (b.frm == x.2) = false := by simp [hq1]
         clear hq hq1
         go_wp2_with fail
         exact ⟨⟨k + 1, pv, av, by omega, by go_num, by rw [Hs2.out]; exact HK.out.1⟩, by simp [intOf]; omega⟩
      ·obtain rfl : k = N.arcs.length := by omega
       have n3 := kn.c3
       have HK := Lib.hid hst
       clear kn hst
       go_wp2_with fail
       exact ⟨⟨i + 1, midO i st (pre3 M.arcs N.arcs x N.arcs.length), pv, av, by go_num, HX.out.2, HK.out⟩, by simp [intOf]; omega⟩
  ·obtain ⟨hsm1, -⟩ := HP.out.1.few HFew.out.1 HFew.out.2 HV.out.1 HV.out.2
   have hil : st.ord.length ≤ i := by omega
   have d1 : decide ((i : Int) < (st.ord.length : Int)) = false := decide_eq_false (by omega)
   go_upto_region 29 with (fail)
   exact end14 M N HFew.out.1 HFew.out.2 HV.out.1 HV.out.2 fm am fn an gm bm gn bn w w2 wo B i st (.slice pa st.ord.length pc) av FS.out hRB HP.out.1 HP.out.2 hil _ _ _ _ _ _ _ _ _ _ _ _ _ _ _ _ _ _ _ _ _ _ _ _ _ _ _ _ _ _ _ _ _ _ _ _ _ _ _ _ _ _ _ _ _ _ _ _ _ _ _ _ _ _ _ _ _ _ _ _ _ _ _ _ _ _ _ _ _ _ _ _ _ _ _ _ _ _ _ _ _ _ _ _ _ _ _ _ _ _ _ _ _ _ _ _ _ _ _ _ _ _ _ _ _ _ _ _ _ _ _ _ _ _ _ _ _ _ _ _ _ _ _ _ _ _ _ _ _ _ _ _ _ _ _ _ _ _ _ _ _ _ _ _ _ _ _ _ _ _ _ _ _ _ _ _ _ _ _ _ _ _ _ _ _ _ _ _ _ _ _ _ _ _ _ _ _ _ _ _ _ _ _ _ _ _ _ _ _ _ _ _ _ _ _ _ _ _ _ _ _ _ _ _ _ _ _ _ _ _ _ _ _ _ _ _ _ _ _ _ _ _ _ _ _ _ _ _ _ _ _ _ _ _ _ _ _ _ _ _ _ _ (by kernel_rfl) (by assumption)
end Go.Proofs.YtfihjpffjdnahaaGreatDoor
