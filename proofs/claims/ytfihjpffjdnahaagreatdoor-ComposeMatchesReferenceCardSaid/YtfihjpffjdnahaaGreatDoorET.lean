/- Walk: gazetteerref12.Trim (printed by mkt.py out of XT3). -/
import Derived.Test.YtfihjpffjdnahaaGreatDoorEO
import Derived.Test.YtfihjpffjdnahaaGreatDoorEH
import Derived.BigRegion
namespace Go.Proofs.YtfihjpffjdnahaaGreatDoor
open Go.RowKit Classical
open Go.Shelf
attribute [local go_sem] undef_bool undef_bool'

theorem marks_one {M : Mach} (hv : ValidM M) {xs ys : List Bool} (hx : ∀ u : Nat, Mk xs u ↔ (u : Int) ∈ [M.start]) (h : Spread (if false = true then backP M.arcs else onP M.arcs) xs ys) (u : Nat) : Mk ys u ↔ Fwd M u := by
 rw [h.2 u]
 unfold Fwd
 constructor
 ·rintro ⟨s, hm, hw⟩
  have e : (s : Int) = M.start := List.mem_singleton.1 ((hx s).1 hm)
  rw [← e]
  rcases hw with e | hw
  ·exact .inl e
  ·exact .inr (way_imp (fun a b h => pr_on.1 h) hw)
 ·intro hw
  rcases hw with e | hw
  ·exact ⟨u, (hx u).2 (List.mem_singleton.2 e.symm), .inl rfl⟩
  ·obtain ⟨s0, e⟩ : ∃ s0 : Nat, M.start = s0 := ⟨M.start.toNat, by have := hv.start.1; omega⟩
   exact ⟨s0, (hx s0).2 (List.mem_singleton.2 e.symm), .inr (e ▸ way_imp (fun a b h => pr_on.2 h) hw)⟩

set_option maxRecDepth 100000 in
set_option maxHeartbeats 4000000 in
theorem Trim12_new (M : Mach) (v : Value) (w : World) (h : MachAt w w.heap.size v M) :
  Calls Tryz.prog 30 #[v] w (TrimPostN M w) := by
 have hMA := h
 obtain ⟨fa, fc, aa, ac, rfl, hfl, hal, hf, ha⟩ := h
 obtain ⟨W0, hW0⟩ : ∃ W0 : World, W0 = (w.alloc (.cells #[.int .i64 M.states, .int .i64 M.start, .slice fa M.final.length fc, .slice aa M.arcs.length ac] 25)).alloc (.cells #[.int .i64 0, .int .i64 0, .slice none 0 0, .slice none 0 0] 25) := ⟨_, rfl⟩
 have hw0 : Below w.heap.size w W0 := by rw [hW0]; exact ((Below.refl _ _).alloc (Nat.le_refl _) _).alloc (by simp) _
 have hB0 : Blk W0 w.heap.size #[.int .i64 M.states, .int .i64 M.start, .slice fa M.final.length fc, .slice aa M.arcs.length ac] 25 := by rw [hW0]; exact (Blk.new _ _ _).alloc _
 have hR0 : Blk W0 (w.heap.size + 1) #[.int .i64 0, .int .i64 0, .slice none 0 0, .slice none 0 0] 25 := by
  rw [hW0]; have := Blk.new (w.alloc (.cells #[.int .i64 M.states, .int .i64 M.start, .slice fa M.final.length fc, .slice aa M.arcs.length ac] 25)) #[.int .i64 0, .int .i64 0, .slice none 0 0, .slice none 0 0] 25
  simpa using this
 have hlt0 := hB0.lt
 have hlt1 := hR0.lt
 have hsz0 : W0.heap.size = w.heap.size + 2 := by rw [hW0]; simp
 have HM := Lib.hid (fun (wr : World) (hbw : Below W0.heap.size W0 wr) => (show wr.cell? ⟨w.heap.size, 0, none⟩ = some (.int .i64 M.states) ∧ wr.cell? ⟨w.heap.size, 1, none⟩ = some (.int .i64 M.start) ∧ wr.cell? ⟨w.heap.size, 2, none⟩ = some (.slice fa M.final.length fc) ∧ wr.cell? ⟨w.heap.size, 3, none⟩ = some (.slice aa M.arcs.length ac) from
  ⟨(hB0.below hbw hlt0).cell 0, (hB0.below hbw hlt0).cell 1, (hB0.below hbw hlt0).cell 2, (hB0.below hbw hlt0).cell 3⟩))
 have HR := Lib.hid (fun (wr : World) (hbw : Below W0.heap.size W0 wr) => hR0.below hbw hlt1)
 have HA := Lib.hid (fun (wr : World) (hbw : Below W0.heap.size W0 wr) => (show MachAt wr wr.heap.size (.agg #[.int .i64 M.states, .int .i64 M.start, .slice fa M.final.length fc, .slice aa M.arcs.length ac]) M from
  have h1 := hw0.trans (hbw.mono hw0.size); (hMA.below h1 (Nat.le_refl _)).more h1.size))
 have HW0 := Lib.hid (And.intro hW0 (And.intro hw0 hsz0))
 obtain ⟨m0, m1, m2, m3⟩ := HM.out W0 (Below.refl _ _)
 clear hW0 hw0 hB0 hR0 hMA hsz0
 unfold maxLen at hfl hal
 go_enter Tryz.func30, Tryz.ntmps30
 go_wp2_with fail
 rw [← HW0.out.1]
 refine (Valid12_any M _ W0 (HA.out W0 (Below.refl _ _))).mono ?_
 rintro e w1 ⟨rfl, hb1⟩
 clear m0 m1 m2 m3
 obtain ⟨m0, m1, m2, m3⟩ := HM.out w1 hb1
 by_cases hv : ValidM M
 case neg =>
  rw [decide_eq_false hv]
  have hr := HR.out w1 hb1
  have z0 : w1.cell? ⟨w.heap.size + 1, 0, none⟩ = some (.int .i64 0) := hr.cell 0
  have z1 : w1.cell? ⟨w.heap.size + 1, 1, none⟩ = some (.int .i64 0) := hr.cell 1
  have z2 : w1.cell? ⟨w.heap.size + 1, 2, none⟩ = some (.slice none 0 0) := hr.cell 2
  have z3 : w1.cell? ⟨w.heap.size + 1, 3, none⟩ = some (.slice none 0 0) := hr.cell 3
  have fz : ∀ j, w1.frozen? ⟨w.heap.size + 1, j, none⟩ = false := fun j => hr.frozen j
  have hbF := HW0.out.2.1.trans (hb1.mono HW0.out.2.1.size)
  have Hv := Lib.hid hv
  clear hv hr
  go_wp2
  refine bodyPost_ret (v := .tuple #[.agg #[.int .i64 0, .int .i64 0, .slice none 0 0, .slice none 0 0], .int .i64 1]) (by simp [results, Tryz.results30, go_sem, z0, z1, z2, z3]) rfl ?_
  have hbs := (((hbF.setCell (p := ⟨w.heap.size + 1, 0, none⟩) (by simp) (.int .i64 0)).setCell (p := ⟨w.heap.size + 1, 1, none⟩) (by simp) (.int .i64 0)).setCell (p := ⟨w.heap.size + 1, 2, none⟩) (by simp) (.slice none 0 0)).setCell (p := ⟨w.heap.size + 1, 3, none⟩) (by simp) (.slice none 0 0)
  exact ⟨_, ⟨0, 0, [], []⟩, 1, rfl, ⟨none, 0, none, 0, rfl, by simp, by simp, fun h => by simp [nums] at h, fun h => by simp [flat] at h⟩, hbs, fun _ => ⟨rfl, rfl⟩, fun h => absurd h Hv.out, fun x0 x1 p nn c r e => by simp at e⟩
 rw [decide_eq_true hv]
 have Hv := Lib.hid hv
 have hfl4 := final_most hv
 have hal4 := hv.arcsLen
 clear hv
 have hw1 := HW0.out.2.1.trans (hb1.mono HW0.out.2.1.size)
 have hsz1 := hb1.size
 obtain ⟨n, hn⟩ : ∃ n : Nat, M.states = n := ⟨M.states.toNat, by have := Hv.out.one; omega⟩
 have hn4 : n ≤ 4000 := by have := Hv.out.most; omega
 obtain ⟨s0, hs0⟩ : ∃ s0 : Nat, M.start = s0 := ⟨M.start.toNat, by have := Hv.out.start.1; omega⟩
 have hs0n : s0 < n := by have := Hv.out.start.2; omega
 have Hn := Lib.hid (And.intro hn hs0)
 have hstart := Hv.out.start
 clear hn hs0
 go_wp2_with fail
 generalize hWa : (w1.alloc _) = wa
 have hka := ((stays_blk (Blk.new w1 _ _)).gen hWa).now
 have hba : Below w1.heap.size w1 wa := by rw [← hWa]; exact (Below.refl _ _).alloc (Nat.le_refl _) _
 clear hWa m0 m1 m2 m3
 have hra : RowAt wa wa.heap.size (some ⟨w1.heap.size, 0, none⟩) (nums [M.start]) := row_of_blk (xs := nums [M.start]) hka
 refine (reached12_any M _ Hv.out [M.start] _ 1 false wa (HA.out wa (hb1.trans (hba.mono hb1.size))) hra (by simp) (fun s hs => by obtain rfl := List.mem_singleton.1 hs; exact hstart)).mono ?_
 rintro e w2 ⟨f, nf, xs, xf, hnf, rfl, hxl, hxs, hsp, hkf, hf1, hb2⟩
 obtain rfl : nf = n := by have := Hn.out.1; omega
 have hmf := fun u => marks_one Hv.out hxs hsp u
 have hxfl : xf.length = nf := by rw [hsp.1, hxl]
 have hb12 : Below w1.heap.size w1 w2 := hba.trans (hb2.mono hba.size)
 have hf1' : w1.heap.size ≤ f := by have := hba.size; omega
 have HF := Lib.hid (And.intro hmf (And.intro hkf hb12))
 clear hka hra hxs hsp hkf hb2 hmf hb12 hba hf1 hnf hxl
 obtain ⟨m0, m1, m2, m3⟩ := HM.out w2 (hb1.trans (HF.out.2.2.mono hb1.size))
 have hrf : RowAt w2 w2.heap.size fa (nums M.final) := (hf.below (hw1.trans (HF.out.2.2.mono hw1.size)) (Nat.le_refl _)).more (by have := HF.out.2.2.size; have := hw1.size; omega)
 go_wp2_with fail
 refine (reached12_any M _ Hv.out M.final fa fc true w2 (HA.out w2 (hb1.trans (HF.out.2.2.mono hb1.size))) hrf (by omega) (fun s hs => Hv.out.final s hs)).mono ?_
 rintro e wO ⟨t, nt, ys, xt, hnt, rfl, hyl, hys, hsp, hkt, ht1, hbO⟩
 obtain rfl : nt = nf := by have := Hn.out.1; omega
 have hbwd := fun u => marks_bwd Hv.out hys hsp u
 have hxtl : xt.length = nt := by rw [hsp.1, hyl]
 have hft : f ≠ t := by have := HF.out.2.1.lt; omega
 have hMO := HF.out.2.2.trans (hbO.mono HF.out.2.2.size)
 have HO3 := Lib.hid (And.intro (HF.out.2.1.below hbO HF.out.2.1.lt) (And.intro hkt (And.intro hbwd hMO)))
 obtain ⟨n, rfl⟩ : ∃ n, n = nt := ⟨_, rfl⟩
 clear m0 m1 m2 m3 hrf hys hsp hkt hbO hbwd hMO hnt hyl
 clear hstart
 obtain ⟨ii, hii, hii0, hii1, hii2⟩ := info_parts info_int
 have hmki := fun W => run_mkrow (P := Tryz.prog) 22 3 ii (.int .i64 0) Tryz.underlying22 hii hii0 .i64 .i64 n n (Nat.le_refl _) (by rw [hii2]; omega) (by omega) W
 rw [hii1] at hmki
 obtain ⟨m0, m1, m2, m3⟩ := HM.out wO (hb1.trans (HO3.out.2.2.2.mono hb1.size))
 rw [Hn.out.1] at m0
 go_upto_region 6 with (fail)
 clear hmki m0 m1 m2 m3
 generalize hW5e : (wO.alloc _) = W5
 obtain ⟨nb, hnbe⟩ : ∃ b, wO.heap.size = b := ⟨_, rfl⟩
 have h5 : Below wO.heap.size wO W5 := by rw [← hW5e]; exact (Below.refl _ _).alloc (Nat.le_refl _) _
 have kbn5 : Blk W5 nb (nums (List.replicate n 0)).toArray 3 := by
  rw [← hW5e, ← hnbe, ← madeCells_ints]
  exact Blk.new _ _ _
 have hs5 : W5.heap.size = nb + 1 := by rw [← hW5e, ← hnbe]; simp
 rw [hnbe]
 have hnb1 : w1.heap.size ≤ nb := by have := HO3.out.2.2.2.size; omega
 clear hW5e
 go_upto_region 7 with (fail)
 generalize hWPe : (W5.alloc _) = wP
 obtain ⟨bo, hboe⟩ : ∃ b, W5.heap.size = b := ⟨_, rfl⟩
 have h5P : Below W5.heap.size W5 wP := by rw [← hWPe]; exact (Below.refl _ _).alloc (Nat.le_refl _) _
 have kbo : Blk wP bo #[.int .i64 0, .int .i64 0, .slice none 0 0, .slice none 0 0] 25 := by rw [← hWPe, ← hboe]; exact Blk.new _ _ _
 have kbn := kbn5.below h5P kbn5.lt
 have hOP : Below wO.heap.size wO wP := h5.trans (h5P.mono h5.size)
 have hsP : wP.heap.size = bo + 1 := by rw [← hWPe]; simp [hboe]
 have hbo0 : nb + 1 = bo := by omega
 rw [hbo0]
 have hbo1 : nb < bo := by omega
 have hnbo : nb ≠ bo := by omega
 have hbon : bo ≠ nb := by omega
 clear hbo0
 have hob : w1.heap.size ≤ bo := by omega
 rw [hnbe] at hOP
 have hfo : f < nb := by have := HO3.out.1.lt; omega
 have hto : t < nb := by have := HO3.out.2.1.lt; omega
 have hMP : Below w1.heap.size w1 wP := HO3.out.2.2.2.trans (hOP.mono (by have := HO3.out.2.2.2.size; omega))
 have HP := Lib.hid (And.intro kbo (And.intro kbn (And.intro (HO3.out.1.below hOP hfo) (And.intro (HO3.out.2.1.below hOP hto) hMP))))
 clear hWPe kbo kbn kbn5 hOP hMP h5 h5P hboe hnbe
 obtain ⟨m0, m1, m2, m3⟩ := HM.out wP (hb1.trans (HP.out.2.2.2.2.mono hb1.size))
 rw [Hn.out.1] at m0
 go_wp2_with fail
 clear m0 m1 m2 m3
 go_loopw [8] (fun i wx => ∃ k : Nat, k ≤ n ∧ i = .int .i64 k ∧ Blk wx (nb) (nums (numRow M n k)).toArray 3 ∧ Blk wx bo #[.int .i64 (numK M k : Nat), .int .i64 0, .slice none 0 0, .slice none 0 0] 25 ∧ Chg (fun j => j = bo ∨ j = nb) wP wx) (fun i _ => n - (intOf i).toNat)
 case atStart => exact ⟨0, Nat.zero_le _, rfl, by rw [numRow_zero]; exact HP.out.2.1, HP.out.1, Chg.refl _ _⟩
 case round =>
  obtain ⟨k, hk, rfl, hbn, hbo, hc⟩ := hrel
  have hMr : Below w1.heap.size w1 wr := HP.out.2.2.2.2.trans (hc.below (B := w1.heap.size) (fun j hj => by omega) HP.out.2.2.2.2.size)
  by_cases hkn : k < n
  ·have hkle := numK_le M k
   have hwrap : IntKind.i64.wrap ((numK M k : Nat) + 1 : Int) = (numK M k : Nat) + 1 := IntWalk.i64_in _ (by omega)
   obtain ⟨m0, m1, m2, m3⟩ := HM.out wr (hb1.trans (hMr.mono hb1.size))
   rw [Hn.out.1] at m0
   rw [Hn.out.2] at m1
   have xfc := (HP.out.2.2.1.chg hc (by omega)).cell k
   have xtc := (HP.out.2.2.2.1.chg hc (by omega)).cell k
   have exf : (bools xf).toArray[k]? = some (.bool xf[k]) := by simp [bools, hxfl, hkn]
   have ext : (bools xt).toArray[k]? = some (.bool xt[k]) := by simp [bools, hxtl, hkn]
   rw [exf] at xfc
   rw [ext] at xtc
   have nc := hbn.cell k
   have nf := hbn.frozen k
   have enc : (nums (numRow M n k)).toArray[k]? = some (.int .i64 ((numRow M n k)[k]'(by rw [numRow_length]; exact hkn))) := by simp [nums, numRow_length, hkn]
   rw [enc] at nc
   have oc : wr.cell? ⟨bo, 0, none⟩ = some (.int .i64 (numK M k : Nat)) := hbo.cell 0
   have of0 := hbo.frozen 0
   have hset : ∀ c, (nums (numRow M n k)).toArray.setIfInBounds k (.int .i64 c) = (nums ((numRow M n k).set k c)).toArray := fun c => by simp [nums, List.map_set]
   have hN : ¬ Kept M (k : Int) → Blk (wr.setCell ⟨nb, k, none⟩ (.int .i64 (-1))) (nb) (nums (numRow M n (k + 1))).toArray 3 ∧ Blk (wr.setCell ⟨nb, k, none⟩ (.int .i64 (-1))) bo #[.int .i64 (numK M (k + 1) : Nat), .int .i64 0, .slice none 0 0, .slice none 0 0] 25 ∧ Chg (fun j => j = bo ∨ j = nb) wP (wr.setCell ⟨nb, k, none⟩ (.int .i64 (-1))) := fun hno => by
    refine ⟨?_, ?_, hc.trans (Chg.setCell (S := fun j => j = bo ∨ j = nb) (p := ⟨nb, k, none⟩) _ (.inl (.inr rfl)) _)⟩
    ·have := hbn.set_ k (.int .i64 (-1))
     rw [hset] at this
     rw [← numRow_succ, if_neg hno]; exact this
    ·rw [numK_succ, if_neg hno]
     exact hbo.far (p := ⟨nb, k, none⟩) (by show bo ≠ nb; omega) _
   have hY : Kept M (k : Int) → Blk (((wr.setCell ⟨nb, k, none⟩ (.int .i64 (-1))).setCell ⟨nb, k, none⟩ (.int .i64 (numK M k : Nat))).setCell ⟨bo, 0, none⟩ (.int .i64 ((numK M k : Nat) + 1))) (nb) (nums (numRow M n (k + 1))).toArray 3 ∧ Blk (((wr.setCell ⟨nb, k, none⟩ (.int .i64 (-1))).setCell ⟨nb, k, none⟩ (.int .i64 (numK M k : Nat))).setCell ⟨bo, 0, none⟩ (.int .i64 ((numK M k : Nat) + 1))) bo #[.int .i64 (numK M (k + 1) : Nat), .int .i64 0, .slice none 0 0, .slice none 0 0] 25 ∧ Chg (fun j => j = bo ∨ j = nb) wP (((wr.setCell ⟨nb, k, none⟩ (.int .i64 (-1))).setCell ⟨nb, k, none⟩ (.int .i64 (numK M k : Nat))).setCell ⟨bo, 0, none⟩ (.int .i64 ((numK M k : Nat) + 1))) := fun hyes => by
    have c1 := hc.trans (Chg.setCell (S := fun j => j = bo ∨ j = nb) (p := ⟨nb, k, none⟩) wr (.inl (.inr rfl)) (.int .i64 (-1)))
    have c2 := c1.trans (Chg.setCell (S := fun j => j = bo ∨ j = nb) (p := ⟨nb, k, none⟩) _ (.inl (.inr rfl)) (.int .i64 (numK M k : Nat)))
    refine ⟨?_, ?_, c2.trans (Chg.setCell (S := fun j => j = bo ∨ j = nb) (p := ⟨bo, 0, none⟩) _ (.inl (.inl rfl)) _)⟩
    ·have := (hbn.set_ k (.int .i64 (-1))).set_ k (.int .i64 (numK M k : Nat))
     rw [Array.setIfInBounds_setIfInBounds, hset] at this
     rw [← numRow_succ, if_pos hyes]; exact this.far (p := ⟨bo, 0, none⟩) (by show nb ≠ bo; omega) _
    ·have := ((hbo.far (p := ⟨nb, k, none⟩) (by show bo ≠ nb; omega) (.int .i64 (-1))).far (p := ⟨nb, k, none⟩) (by show bo ≠ nb; omega) (.int .i64 (numK M k : Nat))).set_ 0 (.int .i64 ((numK M k : Nat) + 1))
     rw [numK_succ, if_pos hyes]
     simpa using this
   have HNY := Lib.hid (And.intro hN hY)
   have hkx : Kept M (k : Int) ↔ k = s0 ∨ (xf[k] = true ∧ xt[k] = true) := by
    have e1 : Mk xf k ↔ xf[k] = true := by unfold Mk; rw [List.getElem?_eq_getElem (by omega)]; simp
    have e2 : Mk xt k ↔ xt[k] = true := by unfold Mk; rw [List.getElem?_eq_getElem (by omega)]; simp
    rw [← e1, ← e2, HF.out.1 k, HO3.out.2.2.1 k]
    unfold Kept
    rw [Hn.out.2, Int.natCast_inj]
   have Hkx := Lib.hid hkx
   clear hN hY hset hkx exf ext enc hbn hbo
   by_cases hks : k = s0
   ·have d1 : ((k : Int) == (s0 : Int)) = true := by simp [hks]
    have Hy := Lib.hid (HNY.out.2 (Hkx.out.2 (.inl hks)))
    clear hks
    go_wp2_with fail
    exact ⟨⟨k + 1, by omega, by go_num, Hy.out.1, Hy.out.2.1, Hy.out.2.2⟩, by simp [intOf]; omega⟩
   ·have d1 : ((k : Int) == (s0 : Int)) = false := by simp; omega
    cases hxk : xf[k] with
    | false =>
     rw [hxk] at xfc
     have Hno := Lib.hid (HNY.out.1 (fun h => by rcases Hkx.out.1 h with e | ⟨e, _⟩; exact hks e; rw [hxk] at e; cases e))
     clear hxk hks
     go_wp2_with fail
     exact ⟨⟨k + 1, by omega, by go_num, Hno.out.1, Hno.out.2.1, Hno.out.2.2⟩, by simp [intOf]; omega⟩
    | true =>
     rw [hxk] at xfc
     cases hxk2 : xt[k] with
     | false =>
      rw [hxk2] at xtc
      have Hno := Lib.hid (HNY.out.1 (fun h => by rcases Hkx.out.1 h with e | ⟨_, e⟩; exact hks e; rw [hxk2] at e; cases e))
      clear hxk hxk2 hks
      go_wp2_with fail
      exact ⟨⟨k + 1, by omega, by go_num, Hno.out.1, Hno.out.2.1, Hno.out.2.2⟩, by simp [intOf]; omega⟩
     | true =>
      rw [hxk2] at xtc
      have Hy := Lib.hid (HNY.out.2 (Hkx.out.2 (.inr ⟨hxk, hxk2⟩)))
      clear hxk hxk2 hks
      go_wp2_with fail
      exact ⟨⟨k + 1, by omega, by go_num, Hy.out.1, Hy.out.2.1, Hy.out.2.2⟩, by simp [intOf]; omega⟩
  ·obtain rfl : k = n := by omega
   obtain ⟨wQ, rfl⟩ : ∃ wQ : World, wQ = wr := ⟨_, rfl⟩
   have ns := hbn.cell s0
   have ens : (nums (numRow M k k)).toArray[s0]? = some (.int .i64 (numI M M.start)) := by
    have := numRow_get M (n := k) (s := M.start) (by rw [Hn.out.2]; omega) (by rw [Hn.out.2]; omega)
    rw [if_pos (show Kept M M.start from .inl rfl), Hn.out.2, Int.toNat_natCast] at this
    rw [Hn.out.2]
    simp [nums, this]
   rw [ens] at ns
   have oc1 : wQ.cell? ⟨bo, 1, none⟩ = some (.int .i64 0) := hbo.cell 1
   have of1 := hbo.frozen 1
   obtain ⟨m0, m1, m2, m3⟩ := HM.out wQ (hb1.trans (hMr.mono hb1.size))
   rw [Hn.out.1] at m0
   rw [Hn.out.2] at m1
   obtain ⟨W6, hW6⟩ : ∃ W6 : World, W6 = wQ.setCell ⟨bo, 1, none⟩ (.int .i64 (numI M M.start)) := ⟨_, rfl⟩
   have k6 : Blk W6 bo #[.int .i64 (numK M k : Nat), .int .i64 (numI M M.start), .slice none 0 0, .slice none 0 0] 25 := by
    rw [hW6]; have := hbo.set_ 1 (.int .i64 (numI M M.start)); simpa using this
   have kn6 : Blk W6 (nb) (nums (numRow M k k)).toArray 3 := by rw [hW6]; exact hbn.far (p := ⟨bo, 1, none⟩) (by show nb ≠ bo; omega) _
   have h16 : Below w1.heap.size w1 W6 := by rw [hW6]; exact hMr.setCell (p := ⟨bo, 1, none⟩) hob _
   have HW6 := Lib.hid hW6
   have H6 := Lib.hid (And.intro k6 (And.intro kn6 h16))
   have hbo6 : nb < W6.heap.size := kn6.lt
   clear hW6 k6 kn6 h16 hbn hbo ens
   go_upto_region 15 with (fail)
   rw [← HW6.out]
   clear m0 m1 m2 m3 ns oc1 of1
   obtain ⟨m0, m1, m2, m3⟩ := HM.out W6 (hb1.trans (H6.out.2.2.mono hb1.size))
   go_wp2_with fail
   clear m0 m1 m2 m3
   go_loopw [9] (fun i wx => ∃ (j : Nat) (fv : Value), j ≤ M.final.length ∧ i = .int .i64 j ∧ wx.ownsRow (bo + 1) 3 1 fv (finL M j).length (nums (finL M j)) ∧ Blk wx bo #[.int .i64 (numK M k : Nat), .int .i64 (numI M M.start), fv, .slice none 0 0] 25 ∧ Blk wx (nb) (nums (numRow M k k)).toArray 3 ∧ Below w1.heap.size w1 wx) (fun i _ => M.final.length - (intOf i).toNat)
   case atStart => exact ⟨0, _, Nat.zero_le _, rfl, World.ownsRow_nil _ _ _ _, H6.out.1, H6.out.2.1, H6.out.2.2⟩
   case round =>
    obtain ⟨j, fv, hj, rfl, hfo', hbo, hbn, hbr4⟩ := hrel
    have hszr4 := hbr4.size
    have hbwr := hw1.trans (hbr4.mono hw1.size)
    have hfll := finL_len M j
    by_cases hjf : j < M.final.length
    ·obtain ⟨b, off, rfl, hb, hcf⟩ := (hf.below hbwr (Nat.le_refl _)).nums (by omega)
     have x0 := hcf j hjf
     obtain ⟨m0, m1, m2, m3⟩ := HM.out wr (hb1.trans (hbr4.mono hb1.size))
     obtain ⟨z, hz⟩ : ∃ z : Nat, M.final[j] = z := ⟨(M.final[j]).toNat, by have := (Hv.out.final _ (List.getElem_mem hjf)).1; omega⟩
     have hzn : z < k := by have := (Hv.out.final _ (List.getElem_mem hjf)).2; rw [Hn.out.1, hz] at this; omega
     have nz := hbn.cell z
     have enz : (nums (numRow M k k)).toArray[z]? = some (.int .i64 (if Kept M M.final[j] then numI M M.final[j] else -1)) := by
      have := numRow_get M (n := k) (s := M.final[j]) (by rw [hz]; omega) (by rw [hz]; omega)
      rw [hz, Int.toNat_natCast] at this
      rw [hz]
      simp [nums, this]
     rw [enz] at nz
     rw [hz] at x0
     obtain ⟨fva, fvc, rfl, _, _⟩ := RowAt.of_own hfo'
     have HB := Lib.hid (And.intro hfo' (And.intro hbo (And.intro hbn hbr4)))
     by_cases hkz : Kept M M.final[j]
     ·rw [if_pos hkz] at nz
      have Hs := Lib.hid (finL_yes hjf hkz)
      obtain ⟨c, hc⟩ : ∃ c : Nat, numI M M.final[j] = c := ⟨numK M (M.final[j]).toNat, rfl⟩
      rw [hc] at nz
      have Hc := Lib.hid hc
      have c2 : wr.cell? ⟨bo, 2, none⟩ = some (.slice fva (finL M j).length fvc) := hbo.cell 2
      have f2 := hbo.frozen 2
      have c9 : (wr.alloc (.cells #[.int .i64 (c : Int)] 3)).drew.cell? ⟨bo, 2, none⟩ = some (.slice fva (finL M j).length fvc) := (hbo.alloc _).cell 2
      have n9 : (wr.alloc (.cells #[.int .i64 (c : Int)] 3)).drew.cell? ⟨nb, z, none⟩ = some (.int .i64 (c : Int)) := ((hbn.alloc _).cell z).trans (by rw [enz, if_pos hkz, hc])
      have hne1 := World.new_ne wr ⟨bo, 2, none⟩ c2
      have hne2 := World.new_ne wr ⟨nb, z, none⟩ nz
      have k91 : Blk (wr.alloc (.cells #[.int .i64 (c : Int)] 3)).drew bo #[.int .i64 (numK M k : Nat), .int .i64 (numI M M.start), .slice fva (finL M j).length fvc, .slice none 0 0] 25 := hbo.alloc _
      have k92 : Blk (wr.alloc (.cells #[.int .i64 (c : Int)] 3)).drew (nb) (nums (numRow M k k)).toArray 3 := hbn.alloc _
      have k93 : (wr.alloc (.cells #[.int .i64 (c : Int)] 3)).drew.ownsRow (bo + 1) 3 1 (.slice fva (finL M j).length fvc) (finL M j).length (nums (finL M j)) := own_drew (hfo'.alloc _)
      have H9 := Lib.hid (And.intro k91 (And.intro k92 k93))
      clear k91 k92 k93
      have Henz := Lib.hid (show (nums (numRow M k k)).toArray[z]? = some (.int .i64 (c : Int)) from by rw [enz, if_pos hkz, hc])
      clear hz hcf hfo' hbo hbn hc enz
      go_upto_region 19 with (fail)
      have hnlt := HB.out.2.2.1.lt
      have hblt := HB.out.2.1.lt
      have Hne := Lib.hid (show some (nb) ≠ (Value.slice fva (finL M j).length fvc).ownBlock from fun e => by have := (HB.out.1.lt _ e.symm).1; omega)
      have hlow := fun (W : World) (hW : Below w1.heap.size w1 W) => And.intro ((hW.cell (p := ⟨w.heap.size, 2, none⟩) (by show w.heap.size < w1.heap.size; omega)).trans ((HB.out.2.2.2.cell (p := ⟨w.heap.size, 2, none⟩) (by show w.heap.size < w1.heap.size; omega)).symm.trans m2)) ((hW.cell (p := ⟨b, off + j, none⟩) (by show b < w1.heap.size; omega)).trans ((HB.out.2.2.2.cell (p := ⟨b, off + j, none⟩) (by show b < w1.heap.size; omega)).symm.trans x0))
      have Hlow := Lib.hid hlow
      have h99 := hlow _ (HB.out.2.2.2.alloc hszr4 (.cells #[.int .i64 (c : Int)] 3)).drew
      have HS9 := Lib.hid (show (fun w' : World => w'.cell? ⟨w.heap.size, 2, none⟩ = some (.slice (some ⟨b, off, none⟩) M.final.length fc) ∧ w'.cell? ⟨b, off + j, none⟩ = some (.int .i64 (z : Int)) ∧ w'.cell? ⟨nb, z, none⟩ = some (.int .i64 (c : Int))) (wr.alloc (.cells #[.int .i64 (c : Int)] 3)).drew from ⟨h99.1, h99.2, n9⟩)
      clear hlow h99
      refine wp_region_held_drew (S := fun w' : World => w'.cell? ⟨w.heap.size, 2, none⟩ = some (.slice (some ⟨b, off, none⟩) M.final.length fc) ∧ w'.cell? ⟨b, off + j, none⟩ = some (.int .i64 (z : Int)) ∧ w'.cell? ⟨nb, z, none⟩ = some (.int .i64 (c : Int))) (by kernel_rfl) ⟨m2, x0, nz⟩ (fun hHeld => ?_)
      refine wpAnyH_take (i := 0) (v := ?_) rfl (by kernel_rfl) (by kernel_rfl) (by kernel_rfl) (fun _ _ _ h => h) (Or.inl ⟨by rfl, ?_⟩) (by assumption) ?_
      rotate_left
      ·intro w' hSw; (try dsimp only at hSw); first | (go_simp; done) | (go_simp; with_reducible rfl)
      try simp only [Act.put, List.setIfInBounds_toArray]
      refine wpAnyH_take (i := 2) (v := ?_) rfl (by kernel_rfl) (by kernel_rfl) (by kernel_rfl) (fun _ _ _ h => h) (Or.inl ⟨by rfl, ?_⟩) (by assumption) ?_
      rotate_left
      ·intro w' hSw; (try dsimp only at hSw); first | (go_simp; done) | (go_simp; with_reducible rfl)
      try simp only [Act.put]
      refine wpAnyH_take (i := 3) (v := ?_) rfl (by kernel_rfl) (by kernel_rfl) (by kernel_rfl) (fun _ _ _ h => h) (Or.inl ⟨by rfl, ?_⟩) (by assumption) ?_
      rotate_left
      ·intro w' hSw; (try dsimp only at hSw); first | (go_simp; done) | (go_simp; with_reducible rfl)
      try simp only [Act.put]
      refine wpAnyH_take (i := 4) (v := ?_) rfl (by kernel_rfl) (by kernel_rfl) (by kernel_rfl) (fun _ _ _ h => h) (Or.inl ⟨by rfl, ?_⟩) (by assumption) ?_
      rotate_left
      ·intro w' hSw; (try dsimp only at hSw); first | (go_simp; done) | (go_simp; with_reducible rfl)
      try simp only [Act.put]
      refine wpAnyH_take (i := 5) (v := ?_) rfl (by kernel_rfl) (by kernel_rfl) (by kernel_rfl) (fun _ _ _ h => h) (Or.inl ⟨by rfl, ?_⟩) (by assumption) ?_
      rotate_left
      ·intro w' hSw; (try dsimp only at hSw); first | (go_simp; done) | (go_simp; with_reducible rfl)
      try simp only [Act.put]
      refine wpAnyH_take (i := 6) (v := ?_) rfl (by kernel_rfl) (by kernel_rfl) (by kernel_rfl) (fun _ _ _ h => h) (Or.inl ⟨by rfl, ?_⟩) (by assumption) ?_
      rotate_left
      ·intro w' hSw; (try dsimp only at hSw); first | (go_simp; done) | (go_simp; with_reducible rfl)
      try simp only [Act.put]
      refine wpAnyH_take (i := 7) (v := ?_) rfl (by kernel_rfl) (by kernel_rfl) (by kernel_rfl) (fun _ _ _ h => h) (Or.inl ⟨by rfl, ?_⟩) (by assumption) ?_
      rotate_left
      ·intro w' hSw; (try dsimp only at hSw); first | (go_simp; done) | (go_simp; with_reducible rfl)
      try simp only [Act.put]
      refine wpAnyH_take (i := 8) (v := ?_) rfl (by kernel_rfl) (by kernel_rfl) (by kernel_rfl) (fun _ _ _ h => h) (Or.inl ⟨by rfl, ?_⟩) (by assumption) ?_
      rotate_left
      ·intro w' hSw; (try dsimp only at hSw); first | (go_simp; done) | (go_simp; with_reducible rfl)
      try simp only [Act.put]
      refine wpAnyH_take (i := 9) (v := ?_) rfl (by kernel_rfl) (by kernel_rfl) (by kernel_rfl) (fun _ _ _ h => h) (Or.inl ⟨by rfl, ?_⟩) (by assumption) ?_
      rotate_left
      ·intro w' hSw; (try dsimp only at hSw); first | (go_simp; done) | (go_simp; with_reducible rfl)
      try simp only [Act.put]
      refine wpAnyH_ready (rs := [1, 10]) (by kernel_rfl) (by simp) ?_
      refine AllReadyH.cons rfl (fun K hK => ?_) (AllReadyH.cons rfl (fun K hK => ?_) AllReadyH.nil)
      ·go_simp
       refine hK.out _ _ (hHeld) (fun _ => ?_)
       clear hK K
       try simp only [Act.put, List.setIfInBounds_toArray, List.set_cons_zero, List.set_cons_succ]
       refine wpAnyH_ready (rs := [10]) (by kernel_rfl) (by simp) ?_
       refine AllReadyH.cons rfl (fun K hK => ?_) AllReadyH.nil
       go_simp
       refine hK.out _ _ (HS9.out) (fun _ => ?_)
       clear hK K
       try simp only [Act.put, List.setIfInBounds_toArray, List.set_cons_zero, List.set_cons_succ]
       refine wpAnyH_ready (rs := [11]) (by kernel_rfl) (by simp) ?_
       refine AllReadyH.cons rfl (fun K hK => ?_) AllReadyH.nil
       refine step_append_lies _ (by rfl) _ _ _ (by rfl) (bo + 1) 3 ii (.int .i64 0) 1 8 Tryz.underlying22 hii hii0 hii1 hii2 rfl (by decide) (.slice fva (finL M j).length fvc) (finL M j).length (nums (finL M j)) (by rfl) H9.out.2.2 ⟨wr.heap.size, 0, none⟩ 1 1 [.int .i64 (c : Int)] (by rfl) rfl (by exact cell_one_new _ _ _) (by simp [Value.oneCell']) (by decide) (by unfold maxLen; omega) (by omega) (by simp; omega) _ rfl ?_
       intro g cap w2 hown1 hgrow hat hlt
       have b1 := H9.out.1.grown hgrow (fun e => H9.out.1.own_ne H9.out.2.2 (by decide) e.symm)
       have b2 := H9.out.2.1.grown hgrow Hne.out
       have q0 : w2.cell? ⟨nb, z, none⟩ = some (.int .i64 (c : Int)) := (b2.cell z).trans Henz.out
       have hbw2 : Below w1.heap.size w1 w2 := (HB.out.2.2.2.alloc hszr4 _).drew.grown hgrow (Nat.le_trans hszr4 (by simp)) (fun i hi => by have := (HB.out.1.lt i hi).1; omega)
       have hl2 := Hlow.out w2 hbw2
       have hl3 := Hlow.out _ (hbw2.setCell (p := ⟨bo, 2, none⟩) hob (.slice (some ⟨g, 0, none⟩) ((finL M j).length + 1) cap))
       have q2 := b1.cell 2
       have qf := b1.frozen 2
       refine hK.out _ _ (⟨hl2.1, hl2.2, q0⟩) (fun _ => ?_)
       clear hK K
       try simp only [Act.put, List.setIfInBounds_toArray]
       refine wpAnyH_take (i := 12) (v := ?_) rfl (by kernel_rfl) (by kernel_rfl) (by kernel_rfl) (fun _ _ _ h => h) (Or.inl ⟨by rfl, ?_⟩) (by assumption) ?_
       rotate_left
       ·intro w' hSw; (try dsimp only at hSw); first | (go_simp; done) | (go_simp; with_reducible rfl)
       try simp only [Act.put]
       refine wpAnyH_ready (rs := [13]) (by kernel_rfl) (by simp) ?_
       refine AllReadyH.cons rfl (fun K hK => ?_) AllReadyH.nil
       go_simp
       refine hK.out _ _ (⟨hl3.1, hl3.2, ((b2.far (p := ⟨bo, 2, none⟩) (by show nb ≠ bo; omega) (.slice (some ⟨g, 0, none⟩) ((finL M j).length + 1) cap)).cell z).trans Henz.out⟩) (fun _ => ?_)
       clear hK K
       try simp only [Act.put, List.setIfInBounds_toArray, List.set_cons_zero, List.set_cons_succ]
       refine wpAnyH_done (by kernel_rfl) ?_ _
       have hz9 : wr.heap.size ≤ (wr.alloc (.cells #[.int .i64 (c : Int)] 3)).drew.heap.size := by simp
       have hb9 : Below w1.heap.size w1 (wr.alloc (.cells #[.int .i64 (c : Int)] 3)).drew := (HB.out.2.2.2.alloc hszr4 _).drew
       have hbF : Below w1.heap.size w1 w2 := hb9.grown hgrow (Nat.le_trans hszr4 hz9) (fun i hi => by have := (HB.out.1.lt i hi).1; omega)
       have hboN := b1.set_ 2 (.slice (some ⟨g, 0, none⟩) ((finL M j).length + 1) cap)
       have hbnN := b2.far (p := ⟨bo, 2, none⟩) (by show nb ≠ bo; omega) (.slice (some ⟨g, 0, none⟩) ((finL M j).length + 1) cap)
       have hownN := own_setCell hown1 (p := ⟨bo, 2, none⟩) (fun e => by have := (hown1.lt _ e).1; simp only at this; omega) (.slice (some ⟨g, 0, none⟩) ((finL M j).length + 1) cap)
       have hbFN := hbF.setCell (p := ⟨bo, 2, none⟩) hob (.slice (some ⟨g, 0, none⟩) ((finL M j).length + 1) cap)
       have hl1 : (finL M (j + 1)).length = (finL M j).length + 1 := by rw [Hs.out, List.length_append]; rfl
       have hnums : nums (finL M j) ++ [.int .i64 (c : Int)] = nums (finL M (j + 1)) := by rw [Hs.out, nums_append, Hc.out]; rfl
       rw [hnums] at hownN
       rw [← hl1] at hownN hboN hbnN hbFN
       have HN := Lib.hid (And.intro hownN (And.intro hboN (And.intro hbnN hbFN)))
       have Hl1 := Lib.hid hl1
       clear hl2 hl3 hbw2 hownN hboN hbnN hbFN hbF hb9 hnums b1 b2 q0 q2 qf hown1 hgrow hat c2 f2 c9 n9 hl1
       go_wp2_with fail
       rw [← Hl1.out]
       exact ⟨⟨j + 1, .slice (some ⟨g, 0, none⟩) (finL M (j + 1)).length cap, by omega, by go_num, HN.out.1, HN.out.2.1, HN.out.2.2.1, HN.out.2.2.2⟩, by simp [intOf]; omega⟩
      ·go_simp
       refine hK.out _ _ (HS9.out) (fun _ => ?_)
       clear hK K
       try simp only [Act.put, List.setIfInBounds_toArray, List.set_cons_zero, List.set_cons_succ]
       refine wpAnyH_ready (rs := [1]) (by kernel_rfl) (by simp) ?_
       refine AllReadyH.cons rfl (fun K hK => ?_) AllReadyH.nil
       go_simp
       refine hK.out _ _ (HS9.out) (fun _ => ?_)
       clear hK K
       try simp only [Act.put, List.setIfInBounds_toArray, List.set_cons_zero, List.set_cons_succ]
       refine wpAnyH_ready (rs := [11]) (by kernel_rfl) (by simp) ?_
       refine AllReadyH.cons rfl (fun K hK => ?_) AllReadyH.nil
       refine step_append_lies _ (by rfl) _ _ _ (by rfl) (bo + 1) 3 ii (.int .i64 0) 1 8 Tryz.underlying22 hii hii0 hii1 hii2 rfl (by decide) (.slice fva (finL M j).length fvc) (finL M j).length (nums (finL M j)) (by rfl) H9.out.2.2 ⟨wr.heap.size, 0, none⟩ 1 1 [.int .i64 (c : Int)] (by rfl) rfl (by exact cell_one_new _ _ _) (by simp [Value.oneCell']) (by decide) (by unfold maxLen; omega) (by omega) (by simp; omega) _ rfl ?_
       intro g cap w2 hown1 hgrow hat hlt
       have b1 := H9.out.1.grown hgrow (fun e => H9.out.1.own_ne H9.out.2.2 (by decide) e.symm)
       have b2 := H9.out.2.1.grown hgrow Hne.out
       have q0 : w2.cell? ⟨nb, z, none⟩ = some (.int .i64 (c : Int)) := (b2.cell z).trans Henz.out
       have hbw2 : Below w1.heap.size w1 w2 := (HB.out.2.2.2.alloc hszr4 _).drew.grown hgrow (Nat.le_trans hszr4 (by simp)) (fun i hi => by have := (HB.out.1.lt i hi).1; omega)
       have hl2 := Hlow.out w2 hbw2
       have hl3 := Hlow.out _ (hbw2.setCell (p := ⟨bo, 2, none⟩) hob (.slice (some ⟨g, 0, none⟩) ((finL M j).length + 1) cap))
       have q2 := b1.cell 2
       have qf := b1.frozen 2
       refine hK.out _ _ (⟨hl2.1, hl2.2, q0⟩) (fun _ => ?_)
       clear hK K
       try simp only [Act.put, List.setIfInBounds_toArray]
       refine wpAnyH_take (i := 12) (v := ?_) rfl (by kernel_rfl) (by kernel_rfl) (by kernel_rfl) (fun _ _ _ h => h) (Or.inl ⟨by rfl, ?_⟩) (by assumption) ?_
       rotate_left
       ·intro w' hSw; (try dsimp only at hSw); first | (go_simp; done) | (go_simp; with_reducible rfl)
       try simp only [Act.put]
       refine wpAnyH_ready (rs := [13]) (by kernel_rfl) (by simp) ?_
       refine AllReadyH.cons rfl (fun K hK => ?_) AllReadyH.nil
       go_simp
       refine hK.out _ _ (⟨hl3.1, hl3.2, ((b2.far (p := ⟨bo, 2, none⟩) (by show nb ≠ bo; omega) (.slice (some ⟨g, 0, none⟩) ((finL M j).length + 1) cap)).cell z).trans Henz.out⟩) (fun _ => ?_)
       clear hK K
       try simp only [Act.put, List.setIfInBounds_toArray, List.set_cons_zero, List.set_cons_succ]
       refine wpAnyH_done (by kernel_rfl) ?_ _
       have hz9 : wr.heap.size ≤ (wr.alloc (.cells #[.int .i64 (c : Int)] 3)).drew.heap.size := by simp
       have hb9 : Below w1.heap.size w1 (wr.alloc (.cells #[.int .i64 (c : Int)] 3)).drew := (HB.out.2.2.2.alloc hszr4 _).drew
       have hbF : Below w1.heap.size w1 w2 := hb9.grown hgrow (Nat.le_trans hszr4 hz9) (fun i hi => by have := (HB.out.1.lt i hi).1; omega)
       have hboN := b1.set_ 2 (.slice (some ⟨g, 0, none⟩) ((finL M j).length + 1) cap)
       have hbnN := b2.far (p := ⟨bo, 2, none⟩) (by show nb ≠ bo; omega) (.slice (some ⟨g, 0, none⟩) ((finL M j).length + 1) cap)
       have hownN := own_setCell hown1 (p := ⟨bo, 2, none⟩) (fun e => by have := (hown1.lt _ e).1; simp only at this; omega) (.slice (some ⟨g, 0, none⟩) ((finL M j).length + 1) cap)
       have hbFN := hbF.setCell (p := ⟨bo, 2, none⟩) hob (.slice (some ⟨g, 0, none⟩) ((finL M j).length + 1) cap)
       have hl1 : (finL M (j + 1)).length = (finL M j).length + 1 := by rw [Hs.out, List.length_append]; rfl
       have hnums : nums (finL M j) ++ [.int .i64 (c : Int)] = nums (finL M (j + 1)) := by rw [Hs.out, nums_append, Hc.out]; rfl
       rw [hnums] at hownN
       rw [← hl1] at hownN hboN hbnN hbFN
       have HN := Lib.hid (And.intro hownN (And.intro hboN (And.intro hbnN hbFN)))
       have Hl1 := Lib.hid hl1
       clear hl2 hl3 hbw2 hownN hboN hbnN hbFN hbF hb9 hnums b1 b2 q0 q2 qf hown1 hgrow hat c2 f2 c9 n9 hl1
       go_wp2_with fail
       rw [← Hl1.out]
       exact ⟨⟨j + 1, .slice (some ⟨g, 0, none⟩) (finL M (j + 1)).length cap, by omega, by go_num, HN.out.1, HN.out.2.1, HN.out.2.2.1, HN.out.2.2.2⟩, by simp [intOf]; omega⟩
     ·rw [if_neg hkz] at nz
      have Hs := Lib.hid (finL_no hjf hkz)
      clear hz hcf hfo' hbo hbn enz hkz
      go_wp2_with fail
      exact ⟨⟨j + 1, .slice fva (finL M j).length fvc, by omega, by go_num, by rw [Hs.out]; exact HB.out.1, HB.out.2.1, HB.out.2.2.1, HB.out.2.2.2⟩, by simp [intOf]; omega⟩
    ·obtain rfl : j = M.final.length := by omega
     obtain ⟨wR, rfl⟩ : ∃ wR : World, wR = wr := ⟨_, rfl⟩
     obtain ⟨fva, fvc, rfl, _, _⟩ := RowAt.of_own hfo'
     obtain ⟨m0, m1, m2, m3⟩ := HM.out wR (hb1.trans (hbr4.mono hb1.size))
     have HR4 := Lib.hid (And.intro hfo' (And.intro hbo (And.intro hbn hbr4)))
     clear hfo' hbo hbn
     go_wp2_with fail
     clear m0 m1 m2 m3
     obtain ⟨ja, hja1, hja2, hja3, hja4⟩ := info_parts info_arc
     go_loopw [10] (fun i wx => ∃ (j : Nat) (av : Value), j ≤ M.arcs.length ∧ i = .int .i64 j ∧ wx.ownsRow (bo + 1) 40 4 av (arcL M j).length (flat (arcL M j)) ∧ Blk wx bo #[.int .i64 (numK M k : Nat), .int .i64 (numI M M.start), .slice fva (finL M M.final.length).length fvc, av] 25 ∧ Blk wx (nb) (nums (numRow M k k)).toArray 3 ∧
      wx.ownsRow (bo + 1) 3 1 (.slice fva (finL M M.final.length).length fvc) (finL M M.final.length).length (nums (finL M M.final.length)) ∧ Below w1.heap.size w1 wx) (fun i _ => M.arcs.length - (intOf i).toNat)
     case atStart => exact ⟨0, _, Nat.zero_le _, rfl, World.ownsRow_nil _ _ _ _, HR4.out.2.1, HR4.out.2.2.1, HR4.out.1, HR4.out.2.2.2⟩
     case round =>
      obtain ⟨j, av, hj, rfl, hav, hbo, hbn, hfo', hbr5⟩ := hrel
      have hszr5 := hbr5.size
      have hbwr5 := hw1.trans (hbr5.mono hw1.size)
      have hall := arcL_len M j
      obtain ⟨ava, avc, rfl, _, _⟩ := RowAt.of_own hav
      have hnlt := hbn.lt
      have hblt := hbo.lt
      by_cases hja : j < M.arcs.length
      ·obtain ⟨b, off, rfl, hb, hcf⟩ := (ha.below hbwr5 (Nat.le_refl _)).arcs (by omega)
       obtain ⟨y0, y1, y2, y3⟩ := hcf j hja
       obtain ⟨m0, m1, m2, m3⟩ := HM.out wr (hb1.trans (hbr5.mono hb1.size))
       obtain ⟨z, hz⟩ : ∃ z, z = M.arcs[j] := ⟨_, rfl⟩
       have hzv := Hv.out.arcs _ (List.getElem_mem hja)
       rw [← hz] at y0 y1 y2 y3 hzv
       have Hz := Lib.hid hz
       clear hz hcf
       obtain ⟨p, hp⟩ : ∃ p : Nat, z.frm = p := ⟨z.frm.toNat, by have := hzv.1.1; omega⟩
       obtain ⟨q, hq⟩ : ∃ q : Nat, z.to = q := ⟨z.to.toNat, by have := hzv.2.1.1; omega⟩
       have hpk : p < k := by have := hzv.1.2; rw [Hn.out.1, hp] at this; omega
       have hqk : q < k := by have := hzv.2.1.2; rw [Hn.out.1, hq] at this; omega
       have enp : (nums (numRow M k k)).toArray[p]? = some (.int .i64 (if Kept M z.frm then numI M z.frm else -1)) := by
        have := numRow_get M (n := k) (s := z.frm) (by rw [hp]; omega) (by rw [hp]; omega)
        rw [hp, Int.toNat_natCast] at this
        rw [hp]
        simp [nums, this]
       have enq : (nums (numRow M k k)).toArray[q]? = some (.int .i64 (if Kept M z.to then numI M z.to else -1)) := by
        have := numRow_get M (n := k) (s := z.to) (by rw [hq]; omega) (by rw [hq]; omega)
        rw [hq, Int.toNat_natCast] at this
        rw [hq]
        simp [nums, this]
       rw [hp] at y0
       rw [hq] at y3
       have Hpq := Lib.hid (And.intro hp hq)
       have Hen := Lib.hid (And.intro enp enq)
       clear hzv hp hq
       go_upto_region 24 with (fail)
       obtain ⟨W8, hW8⟩ : ∃ W8 : World, W8 = wr.alloc (.cells #[.int .i64 p, .int .i64 z.inp, .int .i64 z.out, .int .i64 q] 40) := ⟨_, rfl⟩
       rw [← hW8]
       have hb8 : Below wr.heap.size wr W8 := by rw [hW8]; exact (Below.refl _ _).alloc (Nat.le_refl _) _
       have kz8 : Blk W8 wr.heap.size #[.int .i64 p, .int .i64 z.inp, .int .i64 z.out, .int .i64 q] 40 := by rw [hW8]; exact Blk.new _ _ _
       have hs8 : W8.heap.size = wr.heap.size + 1 := by rw [hW8]; simp
       have H8 := Lib.hid (And.intro (own_below hav hb8) (And.intro (hbo.below hb8 hbo.lt) (And.intro (hbn.below hb8 hbn.lt) (And.intro (own_below hfo' hb8) (And.intro (hbr5.trans (hb8.mono hszr5)) kz8)))))
       have np := H8.out.2.2.1.cell p
       have nq := H8.out.2.2.1.cell q
       rw [enp] at np
       rw [enq] at nq
       have z0 : W8.cell? ⟨wr.heap.size, 0, none⟩ = some (.int .i64 p) := kz8.cell 0
       have z1 : W8.cell? ⟨wr.heap.size, 1, none⟩ = some (.int .i64 z.inp) := kz8.cell 1
       have z2 : W8.cell? ⟨wr.heap.size, 2, none⟩ = some (.int .i64 z.out) := kz8.cell 2
       have z3 : W8.cell? ⟨wr.heap.size, 3, none⟩ = some (.int .i64 q) := kz8.cell 3
       have Hav := Lib.hid (show some wr.heap.size ≠ (Value.slice ava (arcL M j).length avc).ownBlock from fun e => by have := (hav.lt _ e.symm).2; omega)
       clear hW8 hb8 kz8 hav hbo hbn hfo' enp enq y0 y1 y2 y3
       by_cases hkp : Kept M z.frm
       ·rw [if_pos hkp] at np
        obtain ⟨c1, hc1⟩ : ∃ c : Nat, numI M z.frm = c := ⟨numK M z.frm.toNat, rfl⟩
        rw [hc1] at np
        by_cases hkq : Kept M z.to
        ·rw [if_pos hkq] at nq
         obtain ⟨c2, hc2⟩ : ∃ c : Nat, numI M z.to = c := ⟨numK M z.to.toNat, rfl⟩
         rw [hc2] at nq
         have Hc := Lib.hid (And.intro hc1 hc2)
         have Hs := Lib.hid (arcL_yes hja (by rw [← Hz.out]; exact ⟨hkp, hkq⟩))
         clear hc1 hc2 hkp hkq
         go_upto_region 25 with (fail)
         have k91 : Blk (W8.alloc (.cells #[.int .i64 c1, .int .i64 z.inp, .int .i64 z.out, .int .i64 c2] 40)).drew bo #[.int .i64 (numK M k : Nat), .int .i64 (numI M M.start), .slice fva (finL M M.final.length).length fvc, .slice ava (arcL M j).length avc] 25 := H8.out.2.1.alloc _
         have b9 : Below W8.heap.size W8 (W8.alloc (.cells #[.int .i64 c1, .int .i64 z.inp, .int .i64 z.out, .int .i64 c2] 40)).drew := ((Below.refl _ _).alloc (Nat.le_refl _) _).drew
         have e9 : Blk (W8.alloc (.cells #[.int .i64 c1, .int .i64 z.inp, .int .i64 z.out, .int .i64 c2] 40)).drew (wr.heap.size + 1) #[.int .i64 c1, .int .i64 z.inp, .int .i64 z.out, .int .i64 c2] 40 := by rw [← hs8]; exact Blk.new _ _ _
         have k92 := H8.out.2.2.1.below b9 H8.out.2.2.1.lt
         have k93 := own_below H8.out.1 b9
         have k94 := own_below H8.out.2.2.2.1 b9
         have k95 := H8.out.2.2.2.2.2.below b9 H8.out.2.2.2.2.2.lt
         have k96 := H8.out.2.2.2.2.1.trans (b9.mono (by omega))
         have c3 : W8.cell? ⟨bo, 3, none⟩ = some (.slice ava (arcL M j).length avc) := H8.out.2.1.cell 3
         have c39 := k91.cell 3
         have f3 := k91.frozen 3
         simp only [List.getElem?_toArray, List.getElem?_cons_zero, List.getElem?_cons_succ] at c39
         have hS9 : (fun w' : World => w'.cell? ⟨nb, p, none⟩ = some (.int .i64 c1) ∧ w'.cell? ⟨nb, q, none⟩ = some (.int .i64 c2) ∧ w'.cell? ⟨wr.heap.size, 0, none⟩ = some (.int .i64 p) ∧ w'.cell? ⟨wr.heap.size, 1, none⟩ = some (.int .i64 z.inp) ∧ w'.cell? ⟨wr.heap.size, 2, none⟩ = some (.int .i64 z.out) ∧ w'.cell? ⟨wr.heap.size, 3, none⟩ = some (.int .i64 q)) (W8.alloc (.cells #[.int .i64 c1, .int .i64 z.inp, .int .i64 z.out, .int .i64 c2] 40)).drew :=
          ⟨(b9.cell (p := ⟨nb, p, none⟩) H8.out.2.2.1.lt).trans np, (b9.cell (p := ⟨nb, q, none⟩) H8.out.2.2.1.lt).trans nq, k95.cell 0, k95.cell 1, k95.cell 2, k95.cell 3⟩
         have H9 := Lib.hid (And.intro k91 (And.intro k92 (And.intro k93 (And.intro k94 (And.intro k95 (And.intro k96 e9))))))
         have HS9 := Lib.hid hS9
         clear k91 k92 k93 k94 k95 k96 b9 e9 hS9
         refine wp_region_held_drew (S := fun w' => w'.cell? ⟨nb, p, none⟩ = some (.int .i64 c1) ∧ w'.cell? ⟨nb, q, none⟩ = some (.int .i64 c2) ∧ w'.cell? ⟨wr.heap.size, 0, none⟩ = some (.int .i64 p) ∧ w'.cell? ⟨wr.heap.size, 1, none⟩ = some (.int .i64 z.inp) ∧ w'.cell? ⟨wr.heap.size, 2, none⟩ = some (.int .i64 z.out) ∧ w'.cell? ⟨wr.heap.size, 3, none⟩ = some (.int .i64 q)) (by kernel_rfl) ⟨np, nq, z0, z1, z2, z3⟩ (fun hHeld => ?_)
         refine wpAnyH_take (i := 0) (v := ?_) rfl (by kernel_rfl) (by kernel_rfl) (by kernel_rfl) (fun _ _ _ h => h) (Or.inl ⟨by rfl, ?_⟩) (by assumption) ?_
         rotate_left
         ·intro w' hSw; (try dsimp only at hSw); first | (go_simp; done) | (go_simp; with_reducible rfl)
         try simp only [Act.put, List.setIfInBounds_toArray]
         refine wpAnyH_take (i := 2) (v := ?_) rfl (by kernel_rfl) (by kernel_rfl) (by kernel_rfl) (fun _ _ _ h => h) (Or.inl ⟨by rfl, ?_⟩) (by assumption) ?_
         rotate_left
         ·intro w' hSw; (try dsimp only at hSw); first | (go_simp; done) | (go_simp; with_reducible rfl)
         try simp only [Act.put]
         refine wpAnyH_take (i := 3) (v := ?_) rfl (by kernel_rfl) (by kernel_rfl) (by kernel_rfl) (fun _ _ _ h => h) (Or.inl ⟨by rfl, ?_⟩) (by assumption) ?_
         rotate_left
         ·intro w' hSw; (try dsimp only at hSw); first | (go_simp; done) | (go_simp; with_reducible rfl)
         try simp only [Act.put]
         refine wpAnyH_take (i := 4) (v := ?_) rfl (by kernel_rfl) (by kernel_rfl) (by kernel_rfl) (fun _ _ _ h => h) (Or.inl ⟨by rfl, ?_⟩) (by assumption) ?_
         rotate_left
         ·intro w' hSw; (try dsimp only at hSw); first | (go_simp; done) | (go_simp; with_reducible rfl)
         try simp only [Act.put]
         refine wpAnyH_take (i := 5) (v := ?_) rfl (by kernel_rfl) (by kernel_rfl) (by kernel_rfl) (fun _ _ _ h => h) (Or.inl ⟨by rfl, ?_⟩) (by assumption) ?_
         rotate_left
         ·intro w' hSw; (try dsimp only at hSw); first | (go_simp; done) | (go_simp; with_reducible rfl)
         try simp only [Act.put]
         refine wpAnyH_take (i := 6) (v := ?_) rfl (by kernel_rfl) (by kernel_rfl) (by kernel_rfl) (fun _ _ _ h => h) (Or.inl ⟨by rfl, ?_⟩) (by assumption) ?_
         rotate_left
         ·intro w' hSw; (try dsimp only at hSw); first | (go_simp; done) | (go_simp; with_reducible rfl)
         try simp only [Act.put]
         refine wpAnyH_take (i := 7) (v := ?_) rfl (by kernel_rfl) (by kernel_rfl) (by kernel_rfl) (fun _ _ _ h => h) (Or.inl ⟨by rfl, ?_⟩) (by assumption) ?_
         rotate_left
         ·intro w' hSw; (try dsimp only at hSw); first | (go_simp; done) | (go_simp; with_reducible rfl)
         try simp only [Act.put]
         refine wpAnyH_take (i := 8) (v := ?_) rfl (by kernel_rfl) (by kernel_rfl) (by kernel_rfl) (fun _ _ _ h => h) (Or.inl ⟨by rfl, ?_⟩) (by assumption) ?_
         rotate_left
         ·intro w' hSw; (try dsimp only at hSw); first | (go_simp; done) | (go_simp; with_reducible rfl)
         try simp only [Act.put]
         refine wpAnyH_take (i := 9) (v := ?_) rfl (by kernel_rfl) (by kernel_rfl) (by kernel_rfl) (fun _ _ _ h => h) (Or.inl ⟨by rfl, ?_⟩) (by assumption) ?_
         rotate_left
         ·intro w' hSw; (try dsimp only at hSw); first | (go_simp; done) | (go_simp; with_reducible rfl)
         try simp only [Act.put]
         refine wpAnyH_take (i := 10) (v := ?_) rfl (by kernel_rfl) (by kernel_rfl) (by kernel_rfl) (fun _ _ _ h => h) (Or.inl ⟨by rfl, ?_⟩) (by assumption) ?_
         rotate_left
         ·intro w' hSw; (try dsimp only at hSw); first | (go_simp; done) | (go_simp; with_reducible rfl)
         try simp only [Act.put]
         refine wpAnyH_take (i := 11) (v := ?_) rfl (by kernel_rfl) (by kernel_rfl) (by kernel_rfl) (fun _ _ _ h => h) (Or.inl ⟨by rfl, ?_⟩) (by assumption) ?_
         rotate_left
         ·intro w' hSw; (try dsimp only at hSw); first | (go_simp; done) | (go_simp; with_reducible rfl)
         try simp only [Act.put]
         refine wpAnyH_take (i := 12) (v := ?_) rfl (by kernel_rfl) (by kernel_rfl) (by kernel_rfl) (fun _ _ _ h => h) (Or.inl ⟨by rfl, ?_⟩) (by assumption) ?_
         rotate_left
         ·intro w' hSw; (try dsimp only at hSw); first | (go_simp; done) | (go_simp; with_reducible rfl)
         try simp only [Act.put]
         refine wpAnyH_take (i := 13) (v := ?_) rfl (by kernel_rfl) (by kernel_rfl) (by kernel_rfl) (fun _ _ _ h => h) (Or.inl ⟨by rfl, ?_⟩) (by assumption) ?_
         rotate_left
         ·intro w' hSw; (try dsimp only at hSw); first | (go_simp; done) | (go_simp; with_reducible rfl)
         try simp only [Act.put]
         refine wpAnyH_take (i := 14) (v := ?_) rfl (by kernel_rfl) (by kernel_rfl) (by kernel_rfl) (fun _ _ _ h => h) (Or.inl ⟨by rfl, ?_⟩) (by assumption) ?_
         rotate_left
         ·intro w' hSw; (try dsimp only at hSw); first | (go_simp; done) | (go_simp; with_reducible rfl)
         try simp only [Act.put]
         refine wpAnyH_take (i := 15) (v := ?_) rfl (by kernel_rfl) (by kernel_rfl) (by kernel_rfl) (fun _ _ _ h => h) (Or.inl ⟨by rfl, ?_⟩) (by assumption) ?_
         rotate_left
         ·intro w' hSw; (try dsimp only at hSw); first | (go_simp; done) | (go_simp; with_reducible rfl)
         try simp only [Act.put]
         refine wpAnyH_take (i := 16) (v := ?_) rfl (by kernel_rfl) (by kernel_rfl) (by kernel_rfl) (fun _ _ _ h => h) (Or.inl ⟨by rfl, ?_⟩) (by assumption) ?_
         rotate_left
         ·intro w' hSw; (try dsimp only at hSw); first | (go_simp; done) | (go_simp; with_reducible rfl)
         try simp only [Act.put]
         refine wpAnyH_ready (rs := [1, 17]) (by kernel_rfl) (by simp) ?_
         refine AllReadyH.cons rfl (fun K hK => ?_) (AllReadyH.cons rfl (fun K hK => ?_) AllReadyH.nil)
         ·go_simp
          refine hK.out _ _ (hHeld) (fun _ => ?_)
          clear hK K
          try simp only [Act.put, List.setIfInBounds_toArray, List.set_cons_zero, List.set_cons_succ]
          refine wpAnyH_ready (rs := [17]) (by kernel_rfl) (by simp) ?_
          refine AllReadyH.cons rfl (fun K hK => ?_) AllReadyH.nil
          go_simp
          refine hK.out _ _ (HS9.out) (fun _ => ?_)
          clear hK K
          try simp only [Act.put, List.setIfInBounds_toArray, List.set_cons_zero, List.set_cons_succ]
          refine wpAnyH_ready (rs := [18]) (by kernel_rfl) (by simp) ?_
          refine AllReadyH.cons rfl (fun K hK => ?_) AllReadyH.nil
          refine step_append_lies _ (by rfl) _ _ _ (by rfl) (bo + 1) 40 ja _ 4 32 Tryz.underlying23 hja1 hja2 hja3 hja4 rfl (by decide) (.slice ava (arcL M j).length avc) (arcL M j).length (flat (arcL M j)) (by rfl) H9.out.2.2.1 ⟨wr.heap.size + 1, 0, none⟩ 1 1 [.int .i64 c1, .int .i64 z.inp, .int .i64 z.out, .int .i64 c2] (by rfl) rfl (World.news_of_block H9.out.2.2.2.2.2.2) (by simp [Value.oneCell']) (by decide) (by unfold maxLen; omega) (by omega) (by simp; omega) _ rfl ?_
          intro g cap w2 hown1 hgrow hat hlt
          have g1 := H9.out.1.grown hgrow (fun e => H9.out.1.own_ne H9.out.2.2.1 (by decide) e.symm)
          have g2 := H9.out.2.1.grown hgrow (fun e => H9.out.2.1.own_ne H9.out.2.2.1 (by decide) e.symm)
          have g3 := H9.out.2.2.2.2.1.grown hgrow Hav.out
          have q1 := (g2.cell p).trans ((H9.out.2.1.cell p).symm.trans HS9.out.1)
          have q2 := (g2.cell q).trans ((H9.out.2.1.cell q).symm.trans HS9.out.2.1)
          have d3 := g1.cell 3
          have f3' := g1.frozen 3
          refine hK.out _ _ (⟨q1, q2, g3.cell 0, g3.cell 1, g3.cell 2, g3.cell 3⟩) (fun _ => ?_)
          clear hK K
          try simp only [Act.put, List.setIfInBounds_toArray]
          refine wpAnyH_take (i := 19) (v := ?_) rfl (by kernel_rfl) (by kernel_rfl) (by kernel_rfl) (fun _ _ _ h => h) (Or.inl ⟨by rfl, ?_⟩) (by assumption) ?_
          rotate_left
          ·intro w' hSw; (try dsimp only at hSw); first | (go_simp; done) | (go_simp; with_reducible rfl)
          try simp only [Act.put]
          refine wpAnyH_ready (rs := [20]) (by kernel_rfl) (by simp) ?_
          refine AllReadyH.cons rfl (fun K hK => ?_) AllReadyH.nil
          go_simp
          have g3N := g3.far (p := ⟨bo, 3, none⟩) (by show wr.heap.size ≠ bo; omega) (.slice (some ⟨g, 0, none⟩) ((arcL M j).length + 1) cap)
          have g2N := g2.far (p := ⟨bo, 3, none⟩) (by show nb ≠ bo; omega) (.slice (some ⟨g, 0, none⟩) ((arcL M j).length + 1) cap)
          refine hK.out _ _ (⟨(g2N.cell p).trans ((g2.cell p).symm.trans q1), (g2N.cell q).trans ((g2.cell q).symm.trans q2), g3N.cell 0, g3N.cell 1, g3N.cell 2, g3N.cell 3⟩) (fun _ => ?_)
          clear hK K
          try simp only [Act.put, List.setIfInBounds_toArray, List.set_cons_zero, List.set_cons_succ]
          refine wpAnyH_done (by kernel_rfl) ?_ _
          have hownN := own_setCell hown1 (p := ⟨bo, 3, none⟩) (fun e => by have := (hown1.lt _ e).1; simp only at this; omega) (.slice (some ⟨g, 0, none⟩) ((arcL M j).length + 1) cap)
          have g1N := g1.set_ 3 (.slice (some ⟨g, 0, none⟩) ((arcL M j).length + 1) cap)
          have hfv1 := own_kept_other H9.out.2.2.2.1 H9.out.2.2.1 (by decide) hgrow
          have hfvN := own_setCell hfv1 (p := ⟨bo, 3, none⟩) (fun e => by have := (hfv1.lt _ e).1; simp only at this; omega) (.slice (some ⟨g, 0, none⟩) ((arcL M j).length + 1) cap)
          have hbF : Below w1.heap.size w1 w2 := H9.out.2.2.2.2.2.1.grown hgrow H9.out.2.2.2.2.2.1.size (fun i hi => by have := (H9.out.2.2.1.lt i hi).1; omega)
          have hbFN := hbF.setCell (p := ⟨bo, 3, none⟩) hob (.slice (some ⟨g, 0, none⟩) ((arcL M j).length + 1) cap)
          have hl1 : (arcL M (j + 1)).length = (arcL M j).length + 1 := by rw [Hs.out, List.length_append]; rfl
          have hflat : flat (arcL M j) ++ [.int .i64 (c1 : Int), .int .i64 z.inp, .int .i64 z.out, .int .i64 (c2 : Int)] = flat (arcL M (j + 1)) := by
           rw [Hs.out, ← Hz.out, flat_append]; simp [flat, Arc.num, Arc.cells, Hc.out.1, Hc.out.2]
          rw [hflat] at hownN
          rw [← hl1] at hownN g1N g2N hfvN hbFN
          have HN := Lib.hid (And.intro hownN (And.intro g1N (And.intro g2N (And.intro hfvN hbFN))))
          have Hl1 := Lib.hid hl1
          clear hownN g1N g2N g3N hfvN hfv1 hbFN hbF hflat g1 g2 g3 q1 q2 d3 f3' hown1 hgrow hat hl1 c3 c39 f3
          go_wp2_with fail
          rw [← Hl1.out]
          exact ⟨⟨j + 1, .slice (some ⟨g, 0, none⟩) (arcL M (j + 1)).length cap, by omega, by go_num, HN.out.1, HN.out.2.1, HN.out.2.2.1, HN.out.2.2.2.1, HN.out.2.2.2.2⟩, by simp [intOf]; omega⟩
         ·go_simp
          refine hK.out _ _ (HS9.out) (fun _ => ?_)
          clear hK K
          try simp only [Act.put, List.setIfInBounds_toArray, List.set_cons_zero, List.set_cons_succ]
          refine wpAnyH_ready (rs := [1]) (by kernel_rfl) (by simp) ?_
          refine AllReadyH.cons rfl (fun K hK => ?_) AllReadyH.nil
          go_simp
          refine hK.out _ _ (HS9.out) (fun _ => ?_)
          clear hK K
          try simp only [Act.put, List.setIfInBounds_toArray, List.set_cons_zero, List.set_cons_succ]
          refine wpAnyH_ready (rs := [18]) (by kernel_rfl) (by simp) ?_
          refine AllReadyH.cons rfl (fun K hK => ?_) AllReadyH.nil
          refine step_append_lies _ (by rfl) _ _ _ (by rfl) (bo + 1) 40 ja _ 4 32 Tryz.underlying23 hja1 hja2 hja3 hja4 rfl (by decide) (.slice ava (arcL M j).length avc) (arcL M j).length (flat (arcL M j)) (by rfl) H9.out.2.2.1 ⟨wr.heap.size + 1, 0, none⟩ 1 1 [.int .i64 c1, .int .i64 z.inp, .int .i64 z.out, .int .i64 c2] (by rfl) rfl (World.news_of_block H9.out.2.2.2.2.2.2) (by simp [Value.oneCell']) (by decide) (by unfold maxLen; omega) (by omega) (by simp; omega) _ rfl ?_
          intro g cap w2 hown1 hgrow hat hlt
          have g1 := H9.out.1.grown hgrow (fun e => H9.out.1.own_ne H9.out.2.2.1 (by decide) e.symm)
          have g2 := H9.out.2.1.grown hgrow (fun e => H9.out.2.1.own_ne H9.out.2.2.1 (by decide) e.symm)
          have g3 := H9.out.2.2.2.2.1.grown hgrow Hav.out
          have q1 := (g2.cell p).trans ((H9.out.2.1.cell p).symm.trans HS9.out.1)
          have q2 := (g2.cell q).trans ((H9.out.2.1.cell q).symm.trans HS9.out.2.1)
          have d3 := g1.cell 3
          have f3' := g1.frozen 3
          refine hK.out _ _ (⟨q1, q2, g3.cell 0, g3.cell 1, g3.cell 2, g3.cell 3⟩) (fun _ => ?_)
          clear hK K
          try simp only [Act.put, List.setIfInBounds_toArray]
          refine wpAnyH_take (i := 19) (v := ?_) rfl (by kernel_rfl) (by kernel_rfl) (by kernel_rfl) (fun _ _ _ h => h) (Or.inl ⟨by rfl, ?_⟩) (by assumption) ?_
          rotate_left
          ·intro w' hSw; (try dsimp only at hSw); first | (go_simp; done) | (go_simp; with_reducible rfl)
          try simp only [Act.put]
          refine wpAnyH_ready (rs := [20]) (by kernel_rfl) (by simp) ?_
          refine AllReadyH.cons rfl (fun K hK => ?_) AllReadyH.nil
          go_simp
          have g3N := g3.far (p := ⟨bo, 3, none⟩) (by show wr.heap.size ≠ bo; omega) (.slice (some ⟨g, 0, none⟩) ((arcL M j).length + 1) cap)
          have g2N := g2.far (p := ⟨bo, 3, none⟩) (by show nb ≠ bo; omega) (.slice (some ⟨g, 0, none⟩) ((arcL M j).length + 1) cap)
          refine hK.out _ _ (⟨(g2N.cell p).trans ((g2.cell p).symm.trans q1), (g2N.cell q).trans ((g2.cell q).symm.trans q2), g3N.cell 0, g3N.cell 1, g3N.cell 2, g3N.cell 3⟩) (fun _ => ?_)
          clear hK K
          try simp only [Act.put, List.setIfInBounds_toArray, List.set_cons_zero, List.set_cons_succ]
          refine wpAnyH_done (by kernel_rfl) ?_ _
          have hownN := own_setCell hown1 (p := ⟨bo, 3, none⟩) (fun e => by have := (hown1.lt _ e).1; simp only at this; omega) (.slice (some ⟨g, 0, none⟩) ((arcL M j).length + 1) cap)
          have g1N := g1.set_ 3 (.slice (some ⟨g, 0, none⟩) ((arcL M j).length + 1) cap)
          have hfv1 := own_kept_other H9.out.2.2.2.1 H9.out.2.2.1 (by decide) hgrow
          have hfvN := own_setCell hfv1 (p := ⟨bo, 3, none⟩) (fun e => by have := (hfv1.lt _ e).1; simp only at this; omega) (.slice (some ⟨g, 0, none⟩) ((arcL M j).length + 1) cap)
          have hbF : Below w1.heap.size w1 w2 := H9.out.2.2.2.2.2.1.grown hgrow H9.out.2.2.2.2.2.1.size (fun i hi => by have := (H9.out.2.2.1.lt i hi).1; omega)
          have hbFN := hbF.setCell (p := ⟨bo, 3, none⟩) hob (.slice (some ⟨g, 0, none⟩) ((arcL M j).length + 1) cap)
          have hl1 : (arcL M (j + 1)).length = (arcL M j).length + 1 := by rw [Hs.out, List.length_append]; rfl
          have hflat : flat (arcL M j) ++ [.int .i64 (c1 : Int), .int .i64 z.inp, .int .i64 z.out, .int .i64 (c2 : Int)] = flat (arcL M (j + 1)) := by
           rw [Hs.out, ← Hz.out, flat_append]; simp [flat, Arc.num, Arc.cells, Hc.out.1, Hc.out.2]
          rw [hflat] at hownN
          rw [← hl1] at hownN g1N g2N hfvN hbFN
          have HN := Lib.hid (And.intro hownN (And.intro g1N (And.intro g2N (And.intro hfvN hbFN))))
          have Hl1 := Lib.hid hl1
          clear hownN g1N g2N g3N hfvN hfv1 hbFN hbF hflat g1 g2 g3 q1 q2 d3 f3' hown1 hgrow hat hl1 c3 c39 f3
          go_wp2_with fail
          rw [← Hl1.out]
          exact ⟨⟨j + 1, .slice (some ⟨g, 0, none⟩) (arcL M (j + 1)).length cap, by omega, by go_num, HN.out.1, HN.out.2.1, HN.out.2.2.1, HN.out.2.2.2.1, HN.out.2.2.2.2⟩, by simp [intOf]; omega⟩
        ·rw [if_neg hkq] at nq
         have Hs := Lib.hid (arcL_no hja (by rw [← Hz.out]; exact fun h => hkq h.2))
         clear hc1 hkp hkq
         go_wp2_with fail
         exact ⟨⟨j + 1, .slice ava (arcL M j).length avc, by omega, by go_num, by rw [Hs.out]; exact H8.out.1, H8.out.2.1, H8.out.2.2.1, H8.out.2.2.2.1, H8.out.2.2.2.2.1⟩, by simp [intOf]; omega⟩
       ·rw [if_neg hkp] at np
        have Hs := Lib.hid (arcL_no hja (by rw [← Hz.out]; exact fun h => hkp h.1))
        clear hkp
        go_wp2_with fail
        exact ⟨⟨j + 1, .slice ava (arcL M j).length avc, by omega, by go_num, by rw [Hs.out]; exact H8.out.1, H8.out.2.1, H8.out.2.2.1, H8.out.2.2.2.1, H8.out.2.2.2.2.1⟩, by simp [intOf]; omega⟩
      ·obtain rfl : j = M.arcs.length := by omega
       obtain ⟨wS, rfl⟩ : ∃ wS : World, wS = wr := ⟨_, rfl⟩
       have hT : trimM M = ⟨(numK M k : Nat), numI M M.start, finL M M.final.length, arcL M M.arcs.length⟩ := by
        unfold trimM finL arcL
        rw [List.take_length, List.take_length]
        congr 1
        unfold numI
        rw [Hn.out.1, Int.toNat_natCast]
       have hb60 := hb1.trans (hbr5.mono hb1.size)
       obtain ⟨m0, m1, m2, m3⟩ := HM.out wS hb60
       have hR6 := HR.out wS hb60
       have q0 : wS.cell? ⟨w.heap.size + 1, 0, none⟩ = some (.int .i64 0) := hR6.cell 0
       have q1 : wS.cell? ⟨w.heap.size + 1, 1, none⟩ = some (.int .i64 0) := hR6.cell 1
       have q2 : wS.cell? ⟨w.heap.size + 1, 2, none⟩ = some (.slice none 0 0) := hR6.cell 2
       have q3 : wS.cell? ⟨w.heap.size + 1, 3, none⟩ = some (.slice none 0 0) := hR6.cell 3
       have f0 : ∀ j, wS.frozen? ⟨w.heap.size + 1, j, none⟩ = false := fun j => hR6.frozen j
       have o0 : wS.cell? ⟨bo, 0, none⟩ = some (.int .i64 (numK M k : Nat)) := hbo.cell 0
       have o1 : wS.cell? ⟨bo, 1, none⟩ = some (.int .i64 (numI M M.start)) := hbo.cell 1
       have o2 : wS.cell? ⟨bo, 2, none⟩ = some (.slice fva (finL M M.final.length).length fvc) := hbo.cell 2
       have o3 : wS.cell? ⟨bo, 3, none⟩ = some (.slice ava (arcL M M.arcs.length).length avc) := hbo.cell 3
       have hl1 := HW0.out.2.2
       have hne : bo ≠ w.heap.size + 1 := by omega
       have hfll := finL_len M M.final.length
       have HF5 := Lib.hid (And.intro hav (And.intro hfo' (And.intro hT hbwr5)))
       have hlt6 := hbwr5.size
       clear hR6 hbo hbn hav hfo' hT
       go_wp2
       refine bodyPost_ret (v := .tuple #[.agg #[.int .i64 (numK M k : Nat), .int .i64 (numI M M.start), .slice fva (finL M M.final.length).length fvc, .slice ava (arcL M M.arcs.length).length avc], .int .i64 0]) (by simp [results, Tryz.results30, go_sem, q0, q1, q2, q3]) rfl ?_
       have hbs := (((HF5.out.2.2.2.setCell (p := ⟨w.heap.size + 1, 0, none⟩) (by simp) (.int .i64 (numK M k : Nat))).setCell (p := ⟨w.heap.size + 1, 1, none⟩) (by simp) (.int .i64 (numI M M.start))).setCell (p := ⟨w.heap.size + 1, 2, none⟩) (by simp) (.slice fva (finL M M.final.length).length fvc)).setCell (p := ⟨w.heap.size + 1, 3, none⟩) (by simp) (.slice ava (arcL M M.arcs.length).length avc)
       obtain ⟨_, _, e1, _, hrS⟩ := RowAt.of_own HF5.out.1
       injection e1 with e1 _ e1c
       subst e1 e1c
       obtain ⟨_, _, e2, _, hrF⟩ := RowAt.of_own HF5.out.2.1
       injection e2 with e2 _ e2c
       subst e2 e2c
       have hneS : ∀ bb o, ava = some ⟨bb, o, none⟩ → bb ≠ w.heap.size + 1 := fun bb o e => by
        have := (HF5.out.1.lt bb (by rw [e]; rfl)).1; omega
       have hneF : ∀ bb o, fva = some ⟨bb, o, none⟩ → bb ≠ w.heap.size + 1 := fun bb o e => by
        have := (HF5.out.2.1.lt bb (by rw [e]; rfl)).1; omega
       have hrow1 := (((hrS.setC (p := ⟨w.heap.size + 1, 0, none⟩) hneS (.int .i64 (numK M k : Nat))).setC (p := ⟨w.heap.size + 1, 1, none⟩) hneS (.int .i64 (numI M M.start))).setC (p := ⟨w.heap.size + 1, 2, none⟩) hneS (.slice fva (finL M M.final.length).length fvc)).setC (p := ⟨w.heap.size + 1, 3, none⟩) hneS (.slice ava (arcL M M.arcs.length).length avc)
       have hrow2 := (((hrF.setC (p := ⟨w.heap.size + 1, 0, none⟩) hneF (.int .i64 (numK M k : Nat))).setC (p := ⟨w.heap.size + 1, 1, none⟩) hneF (.int .i64 (numI M M.start))).setC (p := ⟨w.heap.size + 1, 2, none⟩) hneF (.slice fva (finL M M.final.length).length fvc)).setC (p := ⟨w.heap.size + 1, 3, none⟩) hneF (.slice ava (arcL M M.arcs.length).length avc)
       exact ⟨_, ⟨(numK M k : Nat), numI M M.start, finL M M.final.length, arcL M M.arcs.length⟩, 0, rfl, ⟨fva, fvc, ava, avc, rfl, (by show (finL M M.final.length).length ≤ _; unfold maxLen; omega), (by show (arcL M M.arcs.length).length ≤ _; unfold maxLen; omega), hrow2.more (by simp), hrow1.more (by simp)⟩, hbs, fun h => absurd Hv.out h, fun _ => ⟨rfl, HF5.out.2.2.1.symm⟩, fun x0 x1 p nn c r e => by
        simp only [Value.agg.injEq, Array.mk.injEq, List.cons.injEq, Value.slice.injEq] at e
        have := (HF5.out.2.1.lt p.block (by rw [e.2.2.1.1]; rfl)).1
        omega⟩
end Go.Proofs.YtfihjpffjdnahaaGreatDoor
