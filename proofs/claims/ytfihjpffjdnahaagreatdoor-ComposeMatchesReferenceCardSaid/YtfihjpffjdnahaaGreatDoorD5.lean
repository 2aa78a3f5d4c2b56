/- Walk: compose.Compose (printed by mkd5.py). -/
import Derived.Test.YtfihjpffjdnahaaGreatDoorDC
import Derived.Test.YtfihjpffjdnahaaGreatDoorDD
import Derived.Deep.RegionHeld3
import Derived.Deep.CutRange
import Derived.Deep.CutBlock
import Derived.Maps.OwnIn
namespace Go.Proofs.YtfihjpffjdnahaaGreatDoor
open Go.RowKit Classical
open Go.Shelf
attribute [local go_sem] Oper.semAt_some
attribute [local go_sem] undef_bool undef_bool'

theorem bpm_ret {F : Fence} {n : Nat} {P : Program} {fn : Func} {R : Ending → World → Prop} {a : Act} {w : World} {v : Value}
  (hr : (results fn a.tmps).run P w = .ok v w) (hd : a.defers = []) (hR : R (.returned v) w) : bodyPostM F n P fn R .ret a w := by
 show LeavesInM F n P fn a.tmps R a.defers .returning w
 rw [hd]
 exact ⟨v, hr, hR⟩
theorem MB.cells {w : World} {b : Nat} {M : Mach} {fa aa : Option Addr} {fc ac : Nat} (h : Blk w b #[.int .i64 M.states, .int .i64 M.start, .slice fa M.final.length fc, .slice aa M.arcs.length ac] 25) :
  w.cell? ⟨b, 0, none⟩ = some (.int .i64 M.states) ∧ w.cell? ⟨b, 1, none⟩ = some (.int .i64 M.start) ∧ w.cell? ⟨b, 2, none⟩ = some (.slice fa M.final.length fc) ∧ w.cell? ⟨b, 3, none⟩ = some (.slice aa M.arcs.length ac) :=
 ⟨h.cell 0, h.cell 1, h.cell 2, h.cell 3⟩
theorem LvAt.more {w : World} {base base' bm : Nat} {l : List Arc} {es : List (Value × Value)} (h : LvAt w base bm l es) (hb : base' ≤ base) : LvAt w base' bm l es :=
 ⟨h.isMap, fun p hp => by obtain ⟨k, h1, h2, h3⟩ := h.own p hp; exact ⟨k, h1, h2, own_base h3 hb⟩, h.has, h.apart⟩
theorem wp_only {P : Program} {c : Code} {K : Act → World → Prop} {Q : Exit → Act → World → Prop} {a : Act} {w : World} (h : c.wp P (Exit.then K (fun _ _ _ => False)) a w) : c.wp P (Exit.then K Q) a w :=
 Code.wp_mono (fun e _ _ h => by cases e <;> first | exact h | exact h.elim) h
/-- What compose.Compose does. -/
def CompPost (M N : Mach) (w : World) (e : Ending) (w' : World) : Prop :=
 ∃ v C err, e = .returned (.tuple #[v, .int .i64 err]) ∧ MachAt w' w'.heap.size v C ∧ Below w.heap.size w w' ∧ CompOut M N C err

set_option maxRecDepth 100000 in
set_option maxHeartbeats 4000000 in
theorem Compose_any (M N : Mach) (v vn : Value) (w : World) (hM : MachAt w w.heap.size v M) (hN : MachAt w w.heap.size vn N) :
  Calls Tryz.prog 7 #[v, vn] w (CompPost M N w) := by
 have hMA := hM
 have hNA := hN
 obtain ⟨fa, fc, aa, ac, rfl, hfl, hal, hf, ha⟩ := hM
 obtain ⟨fb, fd, ab, ad, rfl, hfl2, hal2, hf2, ha2⟩ := hN
 have hmm := @run_makeMap Tryz.prog
 obtain ⟨W0, hW0⟩ : ∃ W0 : World, W0 = ((w.alloc (.cells #[.int .i64 M.states, .int .i64 M.start, .slice fa M.final.length fc, .slice aa M.arcs.length ac] 25)).alloc (.cells #[.int .i64 N.states, .int .i64 N.start, .slice fb N.final.length fd, .slice ab N.arcs.length ad] 25)).alloc (.cells #[.int .i64 0, .int .i64 0, .slice none 0 0, .slice none 0 0] 25) := ⟨_, rfl⟩
 obtain ⟨b0, hb0⟩ : ∃ b, w.heap.size = b := ⟨_, rfl⟩
 have hw0 : Below b0 w W0 := by rw [hW0, ← hb0]; exact (((Below.refl _ _).alloc (Nat.le_refl _) _).alloc (by simp) _).alloc (by simp; omega) _
 have hsz0 : W0.heap.size = b0 + 3 := by rw [hW0, ← hb0]; simp
 have kM : Blk W0 b0 #[.int .i64 M.states, .int .i64 M.start, .slice fa M.final.length fc, .slice aa M.arcs.length ac] 25 := by rw [hW0, ← hb0]; exact ((Blk.new _ _ _).alloc _).alloc _
 have kN : Blk W0 (b0 + 1) #[.int .i64 N.states, .int .i64 N.start, .slice fb N.final.length fd, .slice ab N.arcs.length ad] 25 := by
  rw [hW0, ← hb0]; have := (Blk.new (w.alloc (.cells #[.int .i64 M.states, .int .i64 M.start, .slice fa M.final.length fc, .slice aa M.arcs.length ac] 25)) #[.int .i64 N.states, .int .i64 N.start, .slice fb N.final.length fd, .slice ab N.arcs.length ad] 25).alloc (.cells #[.int .i64 0, .int .i64 0, .slice none 0 0, .slice none 0 0] 25); simpa using this
 have kR : Blk W0 (b0 + 2) #[.int .i64 0, .int .i64 0, .slice none 0 0, .slice none 0 0] 25 := by
  rw [hW0, ← hb0]; have := Blk.new ((w.alloc (.cells #[.int .i64 M.states, .int .i64 M.start, .slice fa M.final.length fc, .slice aa M.arcs.length ac] 25)).alloc (.cells #[.int .i64 N.states, .int .i64 N.start, .slice fb N.final.length fd, .slice ab N.arcs.length ad] 25)) #[.int .i64 0, .int .i64 0, .slice none 0 0, .slice none 0 0] 25; simpa using this
 -- what lay, and the two boxes, in every world that only grew
 have HM := Lib.hid (fun (wr : World) (hbw : Below (b0 + 3) W0 wr) => And.intro (kM.below hbw (by omega)) (And.intro (kN.below hbw (by omega)) (kR.below hbw (by omega))))
 have HA := Lib.hid (fun (wr : World) (hbw : Below (b0 + 3) W0 wr) => (show MachAt wr wr.heap.size (.agg #[.int .i64 M.states, .int .i64 M.start, .slice fa M.final.length fc, .slice aa M.arcs.length ac]) M ∧ MachAt wr wr.heap.size (.agg #[.int .i64 N.states, .int .i64 N.start, .slice fb N.final.length fd, .slice ab N.arcs.length ad]) N from by
  have h1 : Below w.heap.size w wr := by rw [hb0]; exact hw0.trans (hbw.mono (by omega))
  exact ⟨(hMA.below h1 (Nat.le_refl _)).more h1.size, (hNA.below h1 (Nat.le_refl _)).more h1.size⟩))
 have HW := Lib.hid (And.intro hW0 (And.intro hw0 (And.intro hsz0 hb0)))
 have Hrows := Lib.hid (And.intro hf hf2)
 clear hW0 hw0 hsz0 kM kN kR hMA hNA hf hf2 ha ha2
 refine (callsIn_wide (n := 5)).1 ?_
 refine callsIn_of_wp_marks Tryz.func7 rfl trivial ?_ rfl
 simp only [Tryz.ntmps7, List.size_toArray, List.length_cons, List.length_nil, Nat.reduceAdd, Nat.reduceSub, Array.replicate_succ, Array.replicate_zero, List.push_toArray, List.append_toArray, List.nil_append, List.cons_append]
 refine wpIn_wide.2 ?_
 go_upto_region 1 with (fail)

 clear hb0
 have hW := HW.out.1
 rw [← hW]
 clear hW
 obtain ⟨bR, hbR⟩ : ∃ b, b = b0 + 1 + 1 := ⟨_, rfl⟩
 obtain ⟨bN, hbN⟩ : ∃ b, b = b0 + 1 := ⟨_, rfl⟩
 rw [← hbR, ← hbN]
 have HM := Lib.hid (fun (wr : World) (hbw : Below (b0 + 3) W0 wr) => (show Blk wr b0 #[.int .i64 M.states, .int .i64 M.start, .slice fa M.final.length fc, .slice aa M.arcs.length ac] 25 ∧ Blk wr bN #[.int .i64 N.states, .int .i64 N.start, .slice fb N.final.length fd, .slice ab N.arcs.length ad] 25 ∧ Blk wr bR #[.int .i64 0, .int .i64 0, .slice none 0 0, .slice none 0 0] 25 from by rw [hbR, hbN]; exact HM.out wr hbw))
 have hbl : b0 < bN ∧ bN < bR ∧ bR < b0 + 3 := by omega
 clear hbR hbN
 obtain ⟨hmM, hmN, hmR⟩ := HM.out W0 (Below.refl _ _)
 have m0 : W0.cell? ⟨b0, 0, none⟩ = some (.int .i64 M.states) := hmM.cell 0
 have m1 : W0.cell? ⟨b0, 1, none⟩ = some (.int .i64 M.start) := hmM.cell 1
 have m2 : W0.cell? ⟨b0, 2, none⟩ = some (.slice fa M.final.length fc) := hmM.cell 2
 have m3 : W0.cell? ⟨b0, 3, none⟩ = some (.slice aa M.arcs.length ac) := hmM.cell 3
 clear hmM hmN hmR
 go_wp2_with fail
 refine (MValid_any M _ W0 (HA.out W0 (Below.refl _ _)).1).mono ?_
 clear m0 m1 m2 m3
 rintro e w1 ⟨rfl, hb1⟩
 rw [HW.out.2.2.1] at hb1
 by_cases hv : ValidM M
 case neg =>
  rw [decide_eq_false hv]
  obtain ⟨-, -, hmR⟩ := HM.out w1 hb1
  have z0 : w1.cell? ⟨bR, 0, none⟩ = some (.int .i64 0) := hmR.cell 0
  have z1 : w1.cell? ⟨bR, 1, none⟩ = some (.int .i64 0) := hmR.cell 1
  have z2 : w1.cell? ⟨bR, 2, none⟩ = some (.slice none 0 0) := hmR.cell 2
  have z3 : w1.cell? ⟨bR, 3, none⟩ = some (.slice none 0 0) := hmR.cell 3
  have fz : ∀ j, w1.frozen? ⟨bR, j, none⟩ = false := fun j => hmR.frozen j
  have hbF : Below b0 w w1 := HW.out.2.1.trans (hb1.mono (by omega))
  have hbs := (((hbF.setCell (p := ⟨bR, 0, none⟩) (by simp; omega) (.int .i64 0)).setCell (p := ⟨bR, 1, none⟩) (by simp; omega) (.int .i64 0)).setCell (p := ⟨bR, 2, none⟩) (by simp; omega) (.slice none 0 0)).setCell (p := ⟨bR, 3, none⟩) (by simp; omega) (.slice none 0 0)
  rw [← HW.out.2.2.2] at hbs
  have Hbs := Lib.hid hbs
  have Hno := Lib.hid (show ¬ (ValidM M ∧ ValidM N) from fun h => hv h.1)
  clear hmR hbF hbs
  go_wp2_with fail
  refine bpm_ret (v := .tuple #[.agg #[.int .i64 0, .int .i64 0, .slice none 0 0, .slice none 0 0], .int .i64 1]) (by simp [results, Tryz.results7, go_sem, z0, z1, z2, z3]) rfl ?_
  exact ⟨_, zeroM, 1, rfl, zero_mach _ _, Hbs.out, .inl ⟨Hno.out, rfl, rfl⟩⟩
 rw [decide_eq_true hv]
 obtain ⟨hmM, hmN, hmR⟩ := HM.out w1 hb1
 have n0 : w1.cell? ⟨bN, 0, none⟩ = some (.int .i64 N.states) := hmN.cell 0
 have n1 : w1.cell? ⟨bN, 1, none⟩ = some (.int .i64 N.start) := hmN.cell 1
 have n2 : w1.cell? ⟨bN, 2, none⟩ = some (.slice fb N.final.length fd) := hmN.cell 2
 have n3 : w1.cell? ⟨bN, 3, none⟩ = some (.slice ab N.arcs.length ad) := hmN.cell 3
 clear hmM hmN hmR
 go_wp2_with fail
 refine (MValid_any N _ w1 (HA.out w1 hb1).2).mono ?_
 clear n0 n1 n2 n3
 rintro e w2 ⟨rfl, hb2⟩
 by_cases hvN : ValidM N
 case neg =>
  rw [decide_eq_false hvN]
  have hb2' : Below (b0 + 3) W0 w2 := hb1.trans (hb2.mono (by have := hb1.size; have := HW.out.2.2.1; omega))
  obtain ⟨-, -, hmR⟩ := HM.out w2 hb2'
  have z0 : w2.cell? ⟨bR, 0, none⟩ = some (.int .i64 0) := hmR.cell 0
  have z1 : w2.cell? ⟨bR, 1, none⟩ = some (.int .i64 0) := hmR.cell 1
  have z2 : w2.cell? ⟨bR, 2, none⟩ = some (.slice none 0 0) := hmR.cell 2
  have z3 : w2.cell? ⟨bR, 3, none⟩ = some (.slice none 0 0) := hmR.cell 3
  have fz : ∀ j, w2.frozen? ⟨bR, j, none⟩ = false := fun j => hmR.frozen j
  have hbF : Below b0 w w2 := HW.out.2.1.trans (hb2'.mono (by omega))
  have hbs := (((hbF.setCell (p := ⟨bR, 0, none⟩) (by simp; omega) (.int .i64 0)).setCell (p := ⟨bR, 1, none⟩) (by simp; omega) (.int .i64 0)).setCell (p := ⟨bR, 2, none⟩) (by simp; omega) (.slice none 0 0)).setCell (p := ⟨bR, 3, none⟩) (by simp; omega) (.slice none 0 0)
  rw [← HW.out.2.2.2] at hbs
  have Hbs := Lib.hid hbs
  have Hno := Lib.hid (show ¬ (ValidM M ∧ ValidM N) from fun h => hvN h.2)
  clear hmR hbF hbs
  go_wp2_with fail
  refine bpm_ret (v := .tuple #[.agg #[.int .i64 0, .int .i64 0, .slice none 0 0, .slice none 0 0], .int .i64 1]) (by simp [results, Tryz.results7, go_sem, z0, z1, z2, z3]) rfl ?_
  exact ⟨_, zeroM, 1, rfl, zero_mach _ _, Hbs.out, .inl ⟨Hno.out, rfl, rfl⟩⟩
 rw [decide_eq_true hvN]
 have hb2' : Below (b0 + 3) W0 w2 := hb1.trans (hb2.mono (by have := hb1.size; have := HW.out.2.2.1; omega))
 have HV := Lib.hid (And.intro hv hvN)
 have hz2 : b0 + 3 ≤ w2.heap.size := by have := hb2'.size; have := HW.out.2.2.1; omega
 have Hb2 := Lib.hid hb2'
 clear hb1 hb2 hb2' hv hvN
 go_upto_region 6 with (fail)
 generalize hW3 : ((((w2.alloc _).alloc _).alloc _).alloc _) = W3
 obtain ⟨b1, hb1⟩ : ∃ b, w2.heap.size = b := ⟨_, rfl⟩
 have k0 : MapIs W3 b1 OkPr (numEs []) := by
  rw [← hW3, ← hb1]
  exact (((MapIs.made w2 OkPr).alloc _).alloc _).alloc _
 have k1 : Blk W3 (b1 + 1) #[.map (some b1)] 47 := by
  rw [← hW3, ← hb1]
  have := (Blk.new (w2.alloc (.map #[] 0)) #[.map (some w2.heap.size)] 47)
  simp only [World.size_alloc] at this
  exact (this.alloc _).alloc _
 have k2 : Blk W3 (b1 + 2) #[.slice none 0 0] 48 := by
  rw [← hW3, ← hb1]
  have := (Blk.new ((w2.alloc (.map #[] 0)).alloc (.cells #[.map (some w2.heap.size)] 47)) #[.slice none 0 0] 48)
  simp only [World.size_alloc] at this
  exact this.alloc _
 have k3 : ∃ T, Blk W3 (b1 + 3) #[.func (.func 20) #[] #[.pointer (some ⟨b1 + 1, 0, none⟩), .pointer (some ⟨b1 + 2, 0, none⟩)]] T := by
  rw [← hW3, ← hb1]
  have := fun T => Blk.new (((w2.alloc (.map #[] 0)).alloc (.cells #[.map (some w2.heap.size)] 47)).alloc (.cells #[.slice none 0 0] 48)) #[.func (.func 20) #[] #[.pointer (some ⟨w2.heap.size + 1, 0, none⟩), .pointer (some ⟨w2.heap.size + 2, 0, none⟩)]] T
  simp only [World.size_alloc] at this
  exact ⟨_, this _⟩
 have hb23 : Below b1 w2 W3 := by
  rw [← hW3, ← hb1]; exact ((((Below.refl _ _).alloc (Nat.le_refl _) _).alloc (by simp) _).alloc (by simp; omega) _).alloc (by simp; omega) _
 have hs3 : W3.heap.size = b1 + 4 := by rw [← hW3]; simp [hb1]
 have hb3 : Below (b0 + 3) W0 W3 := Hb2.out.trans (hb23.mono (by omega))
 have hb13 : b0 + 3 ≤ b1 := by omega
 clear hW3 hmm hz2
 rw [hb1]
 obtain ⟨B8, hB8⟩ : ∃ b, b = b1 + 1 + 1 + 1 := ⟨_, rfl⟩
 obtain ⟨Bo, hBo⟩ : ∃ b, b = b1 + 1 + 1 := ⟨_, rfl⟩
 obtain ⟨Bn, hBn⟩ : ∃ b, b = b1 + 1 := ⟨_, rfl⟩
 rw [← hB8, ← hBo, ← hBn]
 rw [show b1 + 3 = B8 from hB8.symm, show b1 + 2 = Bo from hBo.symm, show b1 + 1 = Bn from hBn.symm] at k3
 rw [show b1 + 2 = Bo from hBo.symm] at k2
 rw [show b1 + 1 = Bn from hBn.symm] at k1
 have hBl : b1 < Bn ∧ Bn < Bo ∧ Bo < B8 ∧ B8 < b1 + 4 := by omega
 clear hB8 hBo hBn
 have H3 := Lib.hid (And.intro k0 (And.intro k1 (And.intro k2 (And.intro k3 (And.intro hb3 hs3)))))
 have hN3 : NumAt W3 Bn Bo b1 b1 [] (.slice none 0 0) := ⟨k1, k2, k0, World.ownsRow_nil _ _ _ _⟩
 have HN3 := Lib.hid hN3
 obtain ⟨T3, k3⟩ := k3
 obtain ⟨hmM, hmN, -⟩ := HM.out W3 hb3
 have m1 : W3.cell? ⟨b0, 1, none⟩ = some (.int .i64 M.start) := hmM.cell 1
 have n1 : W3.cell? ⟨bN, 1, none⟩ = some (.int .i64 N.start) := hmN.cell 1
 have f8 : W3.cell? ⟨B8, 0, none⟩ = some (.func (.func 20) #[] #[.pointer (some ⟨Bn, 0, none⟩), .pointer (some ⟨Bo, 0, none⟩)]) := k3.cell 0
 have H8 := Lib.hid k3
 clear k0 k1 k2 k3 hb23 hs3 hb3 hN3 hmM hmN hb1
 go_wp2_with fail
 refine (number_any Bn Bo b1 b1 [] (.slice none 0 0) (M.start, N.start) W3 (by simp) (by have := HN3.out.isMap.lt; omega) HN3.out).mono ?_
 clear m1 n1 f8
 rintro e w4 ⟨rfl, ov, hN4, hov4, hc4⟩
 have hb4 : Below (b0 + 3) W0 w4 := H3.out.2.2.2.2.1.trans (hc4.below (fun k hk => by rcases hk with h | h | h; omega; omega; cases h) (by have := H3.out.2.2.2.2.2; omega))
 have h84 : Blk w4 B8 #[.func (.func 20) #[] #[.pointer (some ⟨Bn, 0, none⟩), .pointer (some ⟨Bo, 0, none⟩)]] T3 := H8.out.chg hc4 (fun hk => by rcases hk with h | h | h; omega; omega; cases h)
 rw [show addO [] (M.start, N.start) = [(M.start, N.start)] from by simp [addO]] at hN4
 have hb14 : B8 < w4.heap.size := h84.lt
 have hov8 : ∀ g, ov.ownBlock = some g → B8 < g := fun g e => by
  rcases hov4 g e with h | h
  ·cases h
  ·have := H3.out.2.2.2.2.2; omega
 have H4 := Lib.hid (And.intro hN4 (And.intro hb4 h84))
 have LM := Lib.hid (fun (wr : World) (h : Below (b0 + 3) W0 wr) => leaving_any M (.agg #[.int .i64 M.states, .int .i64 M.start, .slice fa M.final.length fc, .slice aa M.arcs.length ac]) wr (HA.out wr h).1 HV.out.1.arcsLen)
 have LN := Lib.hid (fun (wr : World) (h : Below (b0 + 3) W0 wr) => leaving_any N (.agg #[.int .i64 N.states, .int .i64 N.start, .slice fb N.final.length fd, .slice ab N.arcs.length ad]) wr (HA.out wr h).2 HV.out.2.arcsLen)
 have hbz : b0 + 3 ≤ w4.heap.size := by omega
 clear hov4 hc4 h84 hN4 H3 H8 HN3
 have Hd := Lib.hid (show Below (b0 + 3) W0 w4.drew from hb4.drew)
 clear hb4
 go_upto_region 7 with (fail)
 refine wp_reframe (fun u => (List.toArray (α := Value) (.agg #[.int .i64 M.states, .int .i64 M.start, .slice fa M.final.length fc, .slice aa M.arcs.length ac] :: .agg #[.int .i64 N.states, .int .i64 N.start, .slice fb N.final.length fd, .slice ab N.arcs.length ad] :: .pointer (some ⟨b0, 0, none⟩) :: .pointer (some ⟨bN, 0, none⟩) :: .pointer (some ⟨bR, 0, none⟩) :: .int .i64 0 :: .pointer (some ⟨Bn, 0, none⟩) :: .pointer (some ⟨Bo, 0, none⟩) :: .pointer (some ⟨B8, 0, none⟩) :: u 9 :: u 10 :: u 11 :: u 12 :: u 13 :: u 14 :: u 15 :: u 16 :: u 17 :: u 18 :: u 19 :: u 20 :: u 21 :: u 22 :: u 23 :: u 24 :: u 25 :: u 26 :: u 27 :: u 28 :: u 29 :: u 30 :: u 31 :: u 32 :: u 33 :: u 34 :: u 35 :: u 36 :: u 37 :: u 38 :: u 39 :: u 40 :: u 41 :: u 42 :: u 43 :: u 44 :: u 45 :: u 46 :: u 47 :: u 48 :: u 49 :: u 50 :: u 51 :: u 52 :: u 53 :: u 54 :: u 55 :: u 56 :: u 57 :: u 58 :: u 59 :: u 60 :: u 61 :: u 62 :: u 63 :: u 64 :: u 65 :: u 66 :: u 67 :: u 68 :: u 69 :: u 70 :: u 71 :: u 72 :: u 73 :: u 74 :: u 75 :: u 76 :: u 77 :: u 78 :: u 79 :: u 80 :: u 81 :: u 82 :: u 83 :: u 84 :: u 85 :: u 86 :: u 87 :: u 88 :: u 89 :: u 90 :: u 91 :: u 92 :: u 93 :: u 94 :: u 95 :: u 96 :: u 97 :: u 98 :: u 99 :: u 100 :: u 101 :: u 102 :: u 103 :: u 104 :: u 105 :: u 106 :: u 107 :: u 108 :: u 109 :: u 110 :: u 111 :: u 112 :: u 113 :: u 114 :: u 115 :: u 116 :: u 117 :: u 118 :: u 119 :: []))) rfl ?_
 intro u
 obtain ⟨hmM, hmN, -⟩ := HM.out w4 H4.out.2.1
 have hS : (w4.drew.cell? ⟨b0, 0, none⟩ = some (.int .i64 M.states) ∧ w4.drew.cell? ⟨b0, 1, none⟩ = some (.int .i64 M.start) ∧ w4.drew.cell? ⟨b0, 2, none⟩ = some (.slice fa M.final.length fc) ∧ w4.drew.cell? ⟨b0, 3, none⟩ = some (.slice aa M.arcs.length ac)) ∧ w4.drew.cell? ⟨bN, 0, none⟩ = some (.int .i64 N.states) ∧ w4.drew.cell? ⟨bN, 1, none⟩ = some (.int .i64 N.start) ∧ w4.drew.cell? ⟨bN, 2, none⟩ = some (.slice fb N.final.length fd) ∧ w4.drew.cell? ⟨bN, 3, none⟩ = some (.slice ab N.arcs.length ad) := ⟨MB.cells hmM, MB.cells hmN⟩
 clear hmM hmN
 go_cut [9, 10] from 38 to 42 (fun p q wx => ∃ bml bnl esm esn, p = .map (some bml) ∧ q = .map (some bnl) ∧ LvAt wx w4.heap.size bml M.arcs esm ∧ LvAt wx w4.heap.size bnl N.arcs esn ∧ w4.heap.size ≤ bml ∧ w4.heap.size ≤ bnl ∧ Below w4.heap.size w4 wx)
 case first =>
  refine wp_only ?_
  refine wp_region_held_drew (S := fun w' => (w'.cell? ⟨b0, 0, none⟩ = some (.int .i64 M.states) ∧ w'.cell? ⟨b0, 1, none⟩ = some (.int .i64 M.start) ∧ w'.cell? ⟨b0, 2, none⟩ = some (.slice fa M.final.length fc) ∧ w'.cell? ⟨b0, 3, none⟩ = some (.slice aa M.arcs.length ac)) ∧ w'.cell? ⟨bN, 0, none⟩ = some (.int .i64 N.states) ∧ w'.cell? ⟨bN, 1, none⟩ = some (.int .i64 N.start) ∧ w'.cell? ⟨bN, 2, none⟩ = some (.slice fb N.final.length fd) ∧ w'.cell? ⟨bN, 3, none⟩ = some (.slice ab N.arcs.length ad)) (by kernel_rfl) hS (fun hHeld => ?_)
  refine wpAnyH_take (i := 0) (v := .agg #[.int .i64 M.states, .int .i64 M.start, .slice fa M.final.length fc, .slice aa M.arcs.length ac]) rfl (by kernel_rfl) (by kernel_rfl) (by kernel_rfl) (fun _ _ _ h => h) (Or.inl ⟨by rfl, ?_⟩) (by assumption) ?_
  ·rintro w' ⟨⟨s0, s1, s2, s3⟩, s4, s5, s6, s7⟩
   go_simp
  try simp only [Act.put, List.setIfInBounds_toArray]
  refine wpAnyH_take (i := 2) (v := .agg #[.int .i64 N.states, .int .i64 N.start, .slice fb N.final.length fd, .slice ab N.arcs.length ad]) rfl (by kernel_rfl) (by kernel_rfl) (by kernel_rfl) (fun _ _ _ h => h) (Or.inl ⟨by rfl, ?_⟩) (by assumption) ?_
  ·rintro w' ⟨⟨s0, s1, s2, s3⟩, s4, s5, s6, s7⟩
   go_simp
  try simp only [Act.put]
  refine wpAnyH_ready (rs := [1]) (by kernel_rfl) (by simp) ?_
  refine AllReadyH.cons rfl (fun K hK => ?_) AllReadyH.nil
  ·go_simp
   refine (LM.out w4.drew Hd.out).mono ?_
   rintro e w5 ⟨bml, esm, rfl, lm1, lm2, lm3⟩
   have h5 := Hd.out.trans (lm3.mono hbz)
   obtain ⟨gM, gN, -⟩ := HM.out w5 h5
   refine hK.out _ _ ⟨MB.cells gM, MB.cells gN⟩ (fun _ => ?_)
   clear hK K
   try simp only [Act.put, List.setIfInBounds_toArray, List.set_cons_zero, List.set_cons_succ]
   refine wpAnyH_ready (rs := [3]) (by kernel_rfl) (by simp) ?_
   refine AllReadyH.cons rfl (fun K hK => ?_) AllReadyH.nil
   go_simp
   refine (LN.out w5 h5).mono ?_
   rintro e w6 ⟨bnl, esn, rfl, ln1, ln2, ln3⟩
   have h6 := h5.trans (ln3.mono (by have := h5.size; have := HW.out.2.2.1; omega))
   obtain ⟨gM6, gN6, -⟩ := HM.out w6 h6
   refine hK.out _ _ ⟨MB.cells gM6, MB.cells gN6⟩ (fun _ => ?_)
   clear hK K
   try simp only [Act.put, List.setIfInBounds_toArray, List.set_cons_zero, List.set_cons_succ]
   refine wpAnyH_take (i := 4) (v := .map (some bml)) rfl (by kernel_rfl) (by kernel_rfl) (by kernel_rfl) (fun _ _ _ h => h) (Or.inl ⟨by rfl, ?_⟩) (by assumption) ?_
   ·rintro w' ⟨⟨s0, s1, s2, s3⟩, s4, s5, s6, s7⟩
    go_simp
   try simp only [Act.put, List.setIfInBounds_toArray]
   refine wpAnyH_take (i := 5) (v := .map (some bnl)) rfl (by kernel_rfl) (by kernel_rfl) (by kernel_rfl) (fun _ _ _ h => h) (Or.inl ⟨by rfl, ?_⟩) (by assumption) ?_
   ·rintro w' ⟨⟨s0, s1, s2, s3⟩, s4, s5, s6, s7⟩
    go_simp
   try simp only [Act.put]
   refine wpAnyH_done (by kernel_rfl) ?_ _
   go_simp
   go_wp2_with fail
   go_meet
   have hz5 := lm3.size
   have e5 : w4.drew.heap.size = w4.heap.size := rfl
   rw [e5] at hz5 lm1 lm2 lm3
   have hb46 : Below w4.heap.size w4 w6 := ((Below.refl w4.heap.size w4).drew.trans lm3).trans (ln3.mono hz5)
   exact ⟨bml, bnl, esm, esn, rfl, rfl, lm1.below ln3, ln1.more hz5, lm2, Nat.le_trans hz5 ln2, hb46⟩
 case rest =>
  obtain ⟨bml, bnl, esm, esn, rfl, rfl, hlm, hln, hbm, hbn, hbc⟩ := hcut
  clear Hd LM LN hS
  go_wp2_with fail
  rename_i K1 hK1
  have HK1 := Lib.hid hK1
  clear hK1
  generalize hW5 : ((wc.alloc _).alloc _) = W5
  obtain ⟨bO, hbO⟩ : ∃ b, wc.heap.size = b := ⟨_, rfl⟩
  have kO : Blk W5 bO #[.int .i64 0, .int .i64 0, .slice none 0 0, .slice none 0 0] 25 := by rw [← hW5, ← hbO]; exact (Blk.new _ _ _).alloc _
  have kI : Blk W5 (bO + 1) #[.int .i64 0] 3 := by
   rw [← hW5, ← hbO]; have := Blk.new (wc.alloc (.cells #[.int .i64 0, .int .i64 0, .slice none 0 0, .slice none 0 0] 25)) #[.int .i64 0] 3; simpa using this
  have hb5 : Below wc.heap.size wc W5 := by rw [← hW5]; exact ((Below.refl _ _).alloc (Nat.le_refl _) _).alloc (by simp) _
  have hs5 : W5.heap.size = bO + 2 := by rw [← hW5]; simp [hbO]
  have hb45 : Below w4.heap.size w4 W5 := hbc.trans (hb5.mono hbc.size)
  have hml := hlm.isMap.lt
  have hnl := hln.isMap.lt
  have hsc := hbc.size
  rw [hbO] at hml hnl hsc
  rw [hbO]
  clear hW5
  obtain ⟨ib0, hib0⟩ : ∃ b, b = bO + 1 := ⟨_, rfl⟩
  rw [← hib0]
  rw [← hib0] at kI
  have hib1 : bO < ib0 := by omega
  have hs51 : W5.heap.size ≤ bO + 2 := by omega
  have hs52 : bO + 2 ≤ W5.heap.size := by omega
  have hN5 := H4.out.1.below hb45
  have hov0 : ∀ g, ov.ownBlock = some g → g < w4.heap.size := fun g e => (H4.out.1.row.lt g e).2
  have h85 : Blk W5 B8 #[.func (.func 20) #[] #[.pointer (some ⟨Bn, 0, none⟩), .pointer (some ⟨Bo, 0, none⟩)]] T3 := H4.out.2.2.below hb45 H4.out.2.2.lt
  have hrM : ∀ q ∈ esm, ∀ g, q.2.ownBlock = some g → w4.heap.size ≤ g ∧ g < bO := fun q hq g e => by
   obtain ⟨_, _, _, h3⟩ := hlm.own q hq
   have := h3.lt g e
   omega
  have hrN : ∀ q ∈ esn, ∀ g, q.2.ownBlock = some g → w4.heap.size ≤ g ∧ g < bO := fun q hq g e => by
   obtain ⟨_, _, _, h3⟩ := hln.own q hq
   have := h3.lt g e
   omega
  have H5 := Lib.hid (And.intro (hlm.below hb5) (And.intro (hln.below hb5) (And.intro h85 (And.intro (H4.out.2.1.trans (hb45.mono hbz)) (And.intro hov0 (And.intro hrM (And.intro hrN hov8)))))))
  clear hib0 hs5 hbO hb5 hb45 hlm hln hbc h85 hov0 hrM hrN hov8
  have hL0 : LW W5.heap.size W5 W5 Bn Bo b1 bO ov M N ⟨[(M.start, N.start)], []⟩ 0 ib0 (.slice none 0 0) (.slice none 0 0) ov :=
   ⟨hN5, kO, by simpa [finO, nums] using World.ownsRow_nil _ _ _ _, World.ownsRow_nil _ _ _ _, kI, hib1, Chg.refl _ _, fun g e => .inl e, by intro e; cases e⟩
  have HL0 := Lib.hid hL0
  clear hL0 hN5 kO kI
  have hAfter : ∀ (T : Array Value) (ds : List Deferred) (W : World) (ib : Nat), T = (fun u : Nat → Value => (List.toArray (α := Value) (.agg #[.int .i64 M.states, .int .i64 M.start, .slice fa M.final.length fc, .slice aa M.arcs.length ac] :: .agg #[.int .i64 N.states, .int .i64 N.start, .slice fb N.final.length fd, .slice ab N.arcs.length ad] :: .pointer (some ⟨b0, 0, none⟩) :: .pointer (some ⟨bN, 0, none⟩) :: .pointer (some ⟨bR, 0, none⟩) :: .int .i64 0 :: .pointer (some ⟨Bn, 0, none⟩) :: .pointer (some ⟨Bo, 0, none⟩) :: .pointer (some ⟨B8, 0, none⟩) :: .map (some bml) :: .map (some bnl) :: .pointer (some ⟨bO, 0, none⟩) :: .pointer (some ⟨ib, 0, none⟩) :: u 13 :: u 14 :: u 15 :: u 16 :: u 17 :: u 18 :: u 19 :: u 20 :: u 21 :: u 22 :: u 23 :: u 24 :: u 25 :: u 26 :: u 27 :: u 28 :: u 29 :: u 30 :: u 31 :: u 32 :: u 33 :: u 34 :: u 35 :: u 36 :: u 37 :: u 38 :: u 39 :: u 40 :: u 41 :: u 42 :: u 43 :: u 44 :: u 45 :: u 46 :: u 47 :: u 48 :: u 49 :: u 50 :: u 51 :: u 52 :: u 53 :: u 54 :: u 55 :: u 56 :: u 57 :: u 58 :: u 59 :: u 60 :: u 61 :: u 62 :: u 63 :: u 64 :: u 65 :: u 66 :: u 67 :: u 68 :: u 69 :: u 70 :: u 71 :: u 72 :: u 73 :: u 74 :: u 75 :: u 76 :: u 77 :: u 78 :: u 79 :: u 80 :: u 81 :: u 82 :: u 83 :: u 84 :: u 85 :: u 86 :: u 87 :: u 88 :: u 89 :: u 90 :: u 91 :: u 92 :: u 93 :: u 94 :: u 95 :: u 96 :: u 97 :: u 98 :: u 99 :: u 100 :: u 101 :: u 102 :: u 103 :: u 104 :: u 105 :: u 106 :: u 107 :: u 108 :: u 109 :: u 110 :: u 111 :: u 112 :: u 113 :: u 114 :: u 115 :: u 116 :: u 117 :: u 118 :: u 119 :: []))) (fun k => T[k]?.getD undef) →
    (∃ st i fv av ov', PInv M N st i ∧ LW W5.heap.size W5 W Bn Bo b1 bO ov M N st i ib fv av ov' ∧ MarksOk ds W W5.heap.size ∧ (st.ord.length ≤ i ∨ i = 4000)) → K1 { tmps := T, defers := ds } W := by
   rintro T ds W ib hT ⟨st, i, fv, av, ov', hP, hL, hmk, hd⟩
   obtain ⟨u2, hu2⟩ : ∃ u2 : Nat → Value, u2 = fun k => T[k]?.getD undef := ⟨_, rfl⟩
   rw [← hu2] at hT
   clear hu2
   subst hT
   refine HK1.out _ _ ?_
   clear HK1
   obtain ⟨oa, oc, rfl, -, -⟩ := RowAt.of_own hL.num.row
   obtain ⟨fva, fvc, rfl, -, -⟩ := RowAt.of_own hL.fin
   have hbW : Below (b0 + 3) W0 W := H5.out.2.2.2.1.trans (hL.chg.below (fun k hk => by
    rcases hk with h | h | h | h
    ·omega
    ·omega
    ·omega
    ·have := H5.out.2.2.2.2.2.2.2 k h; omega) (by have := H5.out.2.2.2.1.size; have := HW.out.2.2.1; omega))
   obtain ⟨-, -, hmR⟩ := HM.out W hbW
   have hzW : W5.heap.size ≤ W.heap.size := hL.chg.size
   have hal := hP.arcs_le HV.out.1 HV.out.2
   have hol := ord_le HV.out.1 HV.out.2 hP.nodup hP.pair
   have o0 : W.cell? ⟨Bo, 0, none⟩ = some (.slice oa st.ord.length oc) := hL.num.bo.cell 0
   have c0 : W.cell? ⟨bO, 0, none⟩ = some (.int .i64 0) := hL.out.cell 0
   have c1 : W.cell? ⟨bO, 1, none⟩ = some (.int .i64 0) := hL.out.cell 1
   have c2 : W.cell? ⟨bO, 2, none⟩ = some (.slice fva (finO M N st.ord i).length fvc) := hL.out.cell 2
   have c3 : W.cell? ⟨bO, 3, none⟩ = some av := hL.out.cell 3
   have cf := hL.out.frozen 0
   have HL := Lib.hid (And.intro hP (And.intro hL (And.intro hmk (And.intro hd (And.intro hbW hmR)))))
   clear hP hL hmk hd hbW hmR
   go_upto_region 25 with (fail)
   obtain ⟨W1, hW1⟩ : ∃ W1 : World, W1 = W.setCell ⟨bO, 0, none⟩ (.int .i64 (st.ord.length : Int)) := ⟨_, rfl⟩
   rw [← hW1]
   obtain ⟨hP, hL, hmk, hd, hbW, hmR⟩ := HL.out
   have hc1 : Chg (fun k => k = bO) W W1 := by rw [hW1]; exact Chg.setCell (S := fun k => k = bO) (p := ⟨bO, 0, none⟩) _ (.inl rfl) _
   have hO1 : Blk W1 bO #[.int .i64 (st.ord.length : Int), .int .i64 0, .slice fva (finO M N st.ord i).length fvc, av] 25 := by rw [hW1]; have := hL.out.set_ 0 (.int .i64 (st.ord.length : Int)); simpa using this
   have hF1 : W1.ownsRow W5.heap.size 3 1 (.slice fva (finO M N st.ord i).length fvc) (finO M N st.ord i).length (nums (finO M N st.ord i)) := own_chg hL.fin hc1 (fun g e h => hL.out.own_ne hL.fin (by decide) (by rw [← h]; exact e))
   have hA1 : arcRow W1 W5.heap.size av st.arcs := own_chg hL.arc hc1 (fun g e h => hL.out.own_ne hL.arc (by decide) (by rw [← h]; exact e))
   have hR1 := hmR.chg hc1 (show ¬ bR = bO by omega)
   have hm1 := hmk.chg hc1 (fun E hE hE0 h => by omega)
   have hb1' : Below (b0 + 3) W0 W1 := hbW.trans (hc1.below (fun k h => by omega) (by omega))
   have d0 : W1.cell? ⟨bO, 0, none⟩ = some (.int .i64 (st.ord.length : Int)) := hO1.cell 0
   have d1 : W1.cell? ⟨bO, 1, none⟩ = some (.int .i64 0) := hO1.cell 1
   have d2 : W1.cell? ⟨bO, 2, none⟩ = some (.slice fva (finO M N st.ord i).length fvc) := hO1.cell 2
   have d3 : W1.cell? ⟨bO, 3, none⟩ = some av := hO1.cell 3
   have H1 := Lib.hid (And.intro hO1 (And.intro hF1 (And.intro hA1 (And.intro hR1 (And.intro hm1 (And.intro hb1' hc1))))))
   clear hW1 hO1 hF1 hA1 hR1 hm1 hb1' hc1 hP hL hmk hd hbW hmR o0 c0 c1 c2 c3 cf
   go_wp2_with fail
   refine (made_any (st.ord.length : Int) 0 fva (finO M N st.ord i).length fvc st.arcs av W5.heap.size W1 (by omega) H1.out.2.2.1).mono ?_
   clear d0 d1 d2 d3
   rintro e w2 ⟨S, hS, hc2, hres⟩
   have hO2 := H1.out.1.chg hc2 (fun h => H1.out.1.own_ne H1.out.2.2.1 (by decide) h)
   have hR2 := H1.out.2.2.2.1.chg hc2 (fun h => by have := (H1.out.2.2.1.lt _ h).1; omega)
   have hm2 := H1.out.2.2.2.2.1.chg hc2 (fun E hE hE0 h => by
    obtain ⟨cs, t, hb⟩ := own_has H1.out.2.2.1 h
    unfold Blk at hb
    rw [hb] at hE; cases hE)
   have hF2 := own_chg H1.out.2.1 hc2 (fun g e h => by
    rcases own_ne H1.out.2.1 H1.out.2.2.1 (by decide) with q | q
    ·rw [q] at e; cases e
    ·exact q (e.trans h.symm))
   have hbw2 : Below (b0 + 3) W0 w2 := H1.out.2.2.2.2.2.1.trans (hc2.below (fun k h => by have := (H1.out.2.2.1.lt _ h).1; omega) (by have := H1.out.2.2.2.2.2.2.size; omega))
   have hpo := HL.out.1.out HV.out.1 HV.out.2 HL.out.2.2.2.1 hS
   have hz2 : W5.heap.size ≤ w2.heap.size := by have := H1.out.2.2.2.2.2.2.size; have := hc2.size; omega
   have e0 : w2.cell? ⟨bO, 0, none⟩ = some (.int .i64 (st.ord.length : Int)) := hO2.cell 0
   have e1 : w2.cell? ⟨bO, 1, none⟩ = some (.int .i64 0) := hO2.cell 1
   have e2 : w2.cell? ⟨bO, 2, none⟩ = some (.slice fva (finO M N st.ord i).length fvc) := hO2.cell 2
   have e3 : w2.cell? ⟨bO, 3, none⟩ = some av := hO2.cell 3
   have ef : ∀ j, w2.frozen? ⟨bO, j, none⟩ = false := fun j => hO2.frozen j
   have z0 : w2.cell? ⟨bR, 0, none⟩ = some (.int .i64 0) := hR2.cell 0
   have z1 : w2.cell? ⟨bR, 1, none⟩ = some (.int .i64 0) := hR2.cell 1
   have z2 : w2.cell? ⟨bR, 2, none⟩ = some (.slice none 0 0) := hR2.cell 2
   have z3 : w2.cell? ⟨bR, 3, none⟩ = some (.slice none 0 0) := hR2.cell 3
   have fz : ∀ j, w2.frozen? ⟨bR, j, none⟩ = false := fun j => hR2.frozen j
   have H2 := Lib.hid (And.intro hO2 (And.intro hR2 (And.intro hm2 (And.intro hF2 (And.intro hbw2 hpo)))))
   clear hO2 hR2 hm2 hF2 hbw2 hpo hc2
   rcases hres with ⟨hbig, rfl⟩ | ⟨hbig, aS, cS, rfl, hrS⟩
   ·have Hbig := Lib.hid (H2.out.2.2.2.2.2.1 (by unfold MadeBig at hbig; omega))
    clear hbig hS
    go_wp2_with fail
    have hO2 := H2.out.1
    have hR2 := H2.out.2.1
    have hcO := fill_chg w2 bO (.int .i64 0) (.int .i64 0) (.slice none 0 0) (.slice none 0 0)
    have hR3 := (hR2.chg hcO (show ¬ bR = bO by omega)).fill (.int .i64 0) (.int .i64 0) (.slice none 0 0) (.slice none 0 0)
    have hcX := (hcO.mono (S' := fun k => k = bO ∨ k = bR) (fun _ h => .inl h)).trans ((fill_chg _ bR (.int .i64 0) (.int .i64 0) (.slice none 0 0) (.slice none 0 0)).mono (S' := fun k => k = bO ∨ k = bR) (fun _ h => .inr h))
    have hmX := marks_blk H2.out.2.2.1 hcX (fun k hk => by rcases hk with rfl | rfl; exact ⟨_, _, hO2⟩; exact ⟨_, _, hR2⟩)
    have hwb := HW.out.2.2.2
    have hbX : Below w.heap.size w _ := ((hwb.symm ▸ HW.out.2.1 : Below w.heap.size w W0).trans (H2.out.2.2.2.2.1.mono (by omega))).trans (hcX.below (fun k hk => by omega) (by have := H2.out.2.2.2.2.1.size; have := HW.out.2.2.1; omega))
    refine mach_ret (w := w) hR3 hmX (zero_mach _ _) hbX (by omega) (fun W' q0 q1 q2 q3 => by simp [results, Tryz.results7, go_sem, q0, q1, q2, q3]) (fun W' hm hb => ⟨_, zeroM, 2, rfl, hm, hb, Hbig.out⟩)
   ·obtain ⟨hvC, hCo⟩ := H2.out.2.2.2.2.2.2 (by unfold MadeBig at hbig; omega)
    have Hv := Lib.hid (And.intro hvC hCo)
    have hO2 := H2.out.1
    have hSl : S.length ≤ maxLen := by unfold MadeBig at hbig; unfold maxLen; omega
    have hfl := finO_len M N st.ord i
    have hil := HL.out.1.i4
    have hmm2 := (made_mach (st := (st.ord.length : Int)) (s0 := 0) (cS := cS) hO2 H2.out.2.2.2.1 hrS hSl (by unfold maxLen; omega)).2 _ (fill_chg w2 bO (.int .i64 (st.ord.length : Int)) (.int .i64 0) (.slice fva (finO M N st.ord i).length fvc) (.slice aS S.length cS))
    have Hm2 := Lib.hid hmm2
    clear hbig hS hvC hCo hSl hfl hil hmm2 hrS hO2
    go_wp2_with fail
    refine (Trim_new _ _ _ Hm2.out).mono ?_
    rintro e w3 ⟨v, C, err, rfl, hmC, hb3, -, hC, hnw⟩
    obtain ⟨rfl, rfl⟩ := hC Hv.out.1
    have hO2 := H2.out.1
    have hcO := fill_chg w2 bO (.int .i64 (st.ord.length : Int)) (.int .i64 0) (.slice fva (finO M N st.ord i).length fvc) (.slice aS S.length cS)
    have hcX := hcO.trans (Chg.of_below (fun k => k = bO) hb3)
    have hR3 := H2.out.2.1.chg hcX (show ¬ bR = bO by omega)
    have hmX := marks_blk H2.out.2.2.1 hcX (fun k hk => by rcases hk with rfl; exact ⟨_, _, hO2⟩)
    have hwb := HW.out.2.2.2
    have hbX : Below w.heap.size w w3 := ((hwb.symm ▸ HW.out.2.1 : Below w.heap.size w W0).trans (H2.out.2.2.2.2.1.mono (by omega))).trans (hcX.below (fun k hk => by omega) (by have := H2.out.2.2.2.2.1.size; have := HW.out.2.2.1; omega))
    obtain ⟨fC, cC, aC, dC, rfl, hC1, hC2, hC3, hC4⟩ := hmC
    have hnf : ∀ p, fC = some p → bR < p.block := fun p hp => by
     have := Nat.le_trans hcO.size (hnw _ _ p _ _ _ (by rw [hp]))
     omega
    have Hnf := Lib.hid hnf
    clear hnf hnw
    have z0 : w3.cell? ⟨bR, 0, none⟩ = some (.int .i64 0) := hR3.cell 0
    have z1 : w3.cell? ⟨bR, 1, none⟩ = some (.int .i64 0) := hR3.cell 1
    have z2 : w3.cell? ⟨bR, 2, none⟩ = some (.slice none 0 0) := hR3.cell 2
    have z3 : w3.cell? ⟨bR, 3, none⟩ = some (.slice none 0 0) := hR3.cell 3
    have fz : ∀ j, w3.frozen? ⟨bR, j, none⟩ = false := fun j => hR3.frozen j
    have H3 := Lib.hid (And.intro hR3 (And.intro hmX (And.intro hbX (And.intro hC1 (And.intro hC2 (And.intro hC3 hC4))))))
    clear hR3 hmX hbX hC1 hC2 hC3 hC4 hcX hcO hO2 hb3 hC e0 e1 e2 e3 ef
    go_wp2_with fail
    obtain ⟨hR3, hmX, hbX, hC1, hC2, hC3, hC4⟩ := H3.out
    have hcR := fill_chg w3 bR (.int .i64 (trimM ⟨(st.ord.length : Nat), 0, finO M N st.ord i, S⟩).states) (.int .i64 (trimM ⟨(st.ord.length : Nat), 0, finO M N st.ord i, S⟩).start) (.slice fC (trimM ⟨(st.ord.length : Nat), 0, finO M N st.ord i, S⟩).final.length cC) (.slice aC (trimM ⟨(st.ord.length : Nat), 0, finO M N st.ord i, S⟩).arcs.length dC)
    have hwb := HW.out.2.2.2
    refine mach_ret (w := w) (hR3.fill _ _ _ _) (marks_blk hmX hcR (fun k hk => by rcases hk with rfl; exact ⟨_, _, hR3⟩)) ?_ (hbX.trans (hcR.below (fun k hk => by omega) hbX.size)) (by omega) (fun W' q0 q1 q2 q3 => by simp [results, Tryz.results7, go_sem, q0, q1, q2, q3]) (fun W' hm hb => ⟨_, _, 0, rfl, hm, hb, Hv.out.2⟩)
    exact ⟨_, _, _, _, rfl, hC1, hC2, (hC3.chg hcR (Nat.le_refl _) (fun h0 p hp e => by have := Hnf.out p hp; omega)).more hcR.size, (hC4.chg hcR (Nat.le_refl _) (fun h0 p hp => row_arc_ne hC4 hR3 h0 p hp)).more hcR.size⟩
  have HAfter := Lib.hid hAfter
  clear hAfter HK1
  refine wp_reframe (fun u => (List.toArray (α := Value) (.agg #[.int .i64 M.states, .int .i64 M.start, .slice fa M.final.length fc, .slice aa M.arcs.length ac] :: .agg #[.int .i64 N.states, .int .i64 N.start, .slice fb N.final.length fd, .slice ab N.arcs.length ad] :: .pointer (some ⟨b0, 0, none⟩) :: .pointer (some ⟨bN, 0, none⟩) :: .pointer (some ⟨bR, 0, none⟩) :: .int .i64 0 :: .pointer (some ⟨Bn, 0, none⟩) :: .pointer (some ⟨Bo, 0, none⟩) :: .pointer (some ⟨B8, 0, none⟩) :: .map (some bml) :: .map (some bnl) :: .pointer (some ⟨bO, 0, none⟩) :: .pointer (some ⟨ib0, 0, none⟩) :: u 13 :: u 14 :: u 15 :: u 16 :: u 17 :: u 18 :: u 19 :: u 20 :: u 21 :: u 22 :: u 23 :: u 24 :: u 25 :: u 26 :: u 27 :: u 28 :: u 29 :: u 30 :: u 31 :: u 32 :: u 33 :: u 34 :: u 35 :: u 36 :: u 37 :: u 38 :: u 39 :: u 40 :: u 41 :: u 42 :: u 43 :: u 44 :: u 45 :: u 46 :: u 47 :: u 48 :: u 49 :: u 50 :: u 51 :: u 52 :: u 53 :: u 54 :: u 55 :: u 56 :: u 57 :: u 58 :: u 59 :: u 60 :: u 61 :: u 62 :: u 63 :: u 64 :: u 65 :: u 66 :: u 67 :: u 68 :: u 69 :: u 70 :: u 71 :: u 72 :: u 73 :: u 74 :: u 75 :: u 76 :: u 77 :: u 78 :: u 79 :: u 80 :: u 81 :: u 82 :: u 83 :: u 84 :: u 85 :: u 86 :: u 87 :: u 88 :: u 89 :: u 90 :: u 91 :: u 92 :: u 93 :: u 94 :: u 95 :: u 96 :: u 97 :: u 98 :: u 99 :: u 100 :: u 101 :: u 102 :: u 103 :: u 104 :: u 105 :: u 106 :: u 107 :: u 108 :: u 109 :: u 110 :: u 111 :: u 112 :: u 113 :: u 114 :: u 115 :: u 116 :: u 117 :: u 118 :: u 119 :: []))) rfl ?_
  clear u
  intro u
  have HRel : ∀ (T : Array Value) (ds : List Deferred) (W : World) (m i ib : Nat), T = (fun u : Nat → Value => (List.toArray (α := Value) (.agg #[.int .i64 M.states, .int .i64 M.start, .slice fa M.final.length fc, .slice aa M.arcs.length ac] :: .agg #[.int .i64 N.states, .int .i64 N.start, .slice fb N.final.length fd, .slice ab N.arcs.length ad] :: .pointer (some ⟨b0, 0, none⟩) :: .pointer (some ⟨bN, 0, none⟩) :: .pointer (some ⟨bR, 0, none⟩) :: .int .i64 0 :: .pointer (some ⟨Bn, 0, none⟩) :: .pointer (some ⟨Bo, 0, none⟩) :: .pointer (some ⟨B8, 0, none⟩) :: .map (some bml) :: .map (some bnl) :: .pointer (some ⟨bO, 0, none⟩) :: .pointer (some ⟨ib, 0, none⟩) :: u 13 :: u 14 :: u 15 :: u 16 :: u 17 :: u 18 :: u 19 :: u 20 :: u 21 :: u 22 :: u 23 :: u 24 :: u 25 :: u 26 :: u 27 :: u 28 :: u 29 :: u 30 :: u 31 :: u 32 :: u 33 :: u 34 :: u 35 :: u 36 :: u 37 :: u 38 :: u 39 :: u 40 :: u 41 :: u 42 :: u 43 :: u 44 :: u 45 :: u 46 :: u 47 :: u 48 :: u 49 :: u 50 :: u 51 :: u 52 :: u 53 :: u 54 :: u 55 :: u 56 :: u 57 :: u 58 :: u 59 :: u 60 :: u 61 :: u 62 :: u 63 :: u 64 :: u 65 :: u 66 :: u 67 :: u 68 :: u 69 :: u 70 :: u 71 :: u 72 :: u 73 :: u 74 :: u 75 :: u 76 :: u 77 :: u 78 :: u 79 :: u 80 :: u 81 :: u 82 :: u 83 :: u 84 :: u 85 :: u 86 :: u 87 :: u 88 :: u 89 :: u 90 :: u 91 :: u 92 :: u 93 :: u 94 :: u 95 :: u 96 :: u 97 :: u 98 :: u 99 :: u 100 :: u 101 :: u 102 :: u 103 :: u 104 :: u 105 :: u 106 :: u 107 :: u 108 :: u 109 :: u 110 :: u 111 :: u 112 :: u 113 :: u 114 :: u 115 :: u 116 :: u 117 :: u 118 :: u 119 :: []))) (fun k => T[k]?.getD undef) → m = 4000 - i →
    (∃ st fv av ov', PInv M N st i ∧ LW W5.heap.size W5 W Bn Bo b1 bO ov M N st i ib fv av ov' ∧ MarksOk ds W W5.heap.size) →
    ∃ (u : Nat → Value) (ds' : List Deferred) (st : PSt) (i ib : Nat) (fv av ov' : Value), ({ tmps := T, defers := ds } : Act) = { tmps := (List.toArray (α := Value) (.agg #[.int .i64 M.states, .int .i64 M.start, .slice fa M.final.length fc, .slice aa M.arcs.length ac] :: .agg #[.int .i64 N.states, .int .i64 N.start, .slice fb N.final.length fd, .slice ab N.arcs.length ad] :: .pointer (some ⟨b0, 0, none⟩) :: .pointer (some ⟨bN, 0, none⟩) :: .pointer (some ⟨bR, 0, none⟩) :: .int .i64 0 :: .pointer (some ⟨Bn, 0, none⟩) :: .pointer (some ⟨Bo, 0, none⟩) :: .pointer (some ⟨B8, 0, none⟩) :: .map (some bml) :: .map (some bnl) :: .pointer (some ⟨bO, 0, none⟩) :: .pointer (some ⟨ib, 0, none⟩) :: u 13 :: u 14 :: u 15 :: u 16 :: u 17 :: u 18 :: u 19 :: u 20 :: u 21 :: u 22 :: u 23 :: u 24 :: u 25 :: u 26 :: u 27 :: u 28 :: u 29 :: u 30 :: u 31 :: u 32 :: u 33 :: u 34 :: u 35 :: u 36 :: u 37 :: u 38 :: u 39 :: u 40 :: u 41 :: u 42 :: u 43 :: u 44 :: u 45 :: u 46 :: u 47 :: u 48 :: u 49 :: u 50 :: u 51 :: u 52 :: u 53 :: u 54 :: u 55 :: u 56 :: u 57 :: u 58 :: u 59 :: u 60 :: u 61 :: u 62 :: u 63 :: u 64 :: u 65 :: u 66 :: u 67 :: u 68 :: u 69 :: u 70 :: u 71 :: u 72 :: u 73 :: u 74 :: u 75 :: u 76 :: u 77 :: u 78 :: u 79 :: u 80 :: u 81 :: u 82 :: u 83 :: u 84 :: u 85 :: u 86 :: u 87 :: u 88 :: u 89 :: u 90 :: u 91 :: u 92 :: u 93 :: u 94 :: u 95 :: u 96 :: u 97 :: u 98 :: u 99 :: u 100 :: u 101 :: u 102 :: u 103 :: u 104 :: u 105 :: u 106 :: u 107 :: u 108 :: u 109 :: u 110 :: u 111 :: u 112 :: u 113 :: u 114 :: u 115 :: u 116 :: u 117 :: u 118 :: u 119 :: [])), defers := ds' } ∧ m = 4000 - i ∧ PInv M N st i ∧ LW W5.heap.size W5 W Bn Bo b1 bO ov M N st i ib fv av ov' ∧ MarksOk ds' W W5.heap.size := by
   rintro T ds W m i ib hT hm ⟨st, fv, av, ov', h1, h2, h3⟩
   exact ⟨fun k => T[k]?.getD undef, ds, st, i, ib, fv, av, ov', congrArg (fun t => ({ tmps := t, defers := ds } : Act)) hT, hm, h1, h2, h3⟩
  have HRel := Lib.hid HRel
  refine wp_loop_ghost (fun m a W => ∃ (u : Nat → Value) (ds' : List Deferred) (st : PSt) (i ib : Nat) (fv av ov' : Value), a = { tmps := (List.toArray (α := Value) (.agg #[.int .i64 M.states, .int .i64 M.start, .slice fa M.final.length fc, .slice aa M.arcs.length ac] :: .agg #[.int .i64 N.states, .int .i64 N.start, .slice fb N.final.length fd, .slice ab N.arcs.length ad] :: .pointer (some ⟨b0, 0, none⟩) :: .pointer (some ⟨bN, 0, none⟩) :: .pointer (some ⟨bR, 0, none⟩) :: .int .i64 0 :: .pointer (some ⟨Bn, 0, none⟩) :: .pointer (some ⟨Bo, 0, none⟩) :: .pointer (some ⟨B8, 0, none⟩) :: .map (some bml) :: .map (some bnl) :: .pointer (some ⟨bO, 0, none⟩) :: .pointer (some ⟨ib, 0, none⟩) :: u 13 :: u 14 :: u 15 :: u 16 :: u 17 :: u 18 :: u 19 :: u 20 :: u 21 :: u 22 :: u 23 :: u 24 :: u 25 :: u 26 :: u 27 :: u 28 :: u 29 :: u 30 :: u 31 :: u 32 :: u 33 :: u 34 :: u 35 :: u 36 :: u 37 :: u 38 :: u 39 :: u 40 :: u 41 :: u 42 :: u 43 :: u 44 :: u 45 :: u 46 :: u 47 :: u 48 :: u 49 :: u 50 :: u 51 :: u 52 :: u 53 :: u 54 :: u 55 :: u 56 :: u 57 :: u 58 :: u 59 :: u 60 :: u 61 :: u 62 :: u 63 :: u 64 :: u 65 :: u 66 :: u 67 :: u 68 :: u 69 :: u 70 :: u 71 :: u 72 :: u 73 :: u 74 :: u 75 :: u 76 :: u 77 :: u 78 :: u 79 :: u 80 :: u 81 :: u 82 :: u 83 :: u 84 :: u 85 :: u 86 :: u 87 :: u 88 :: u 89 :: u 90 :: u 91 :: u 92 :: u 93 :: u 94 :: u 95 :: u 96 :: u 97 :: u 98 :: u 99 :: u 100 :: u 101 :: u 102 :: u 103 :: u 104 :: u 105 :: u 106 :: u 107 :: u 108 :: u 109 :: u 110 :: u 111 :: u 112 :: u 113 :: u 114 :: u 115 :: u 116 :: u 117 :: u 118 :: u 119 :: [])), defers := ds' } ∧ m = 4000 - i ∧ PInv M N st i ∧ LW W5.heap.size W5 W Bn Bo b1 bO ov M N st i ib fv av ov' ∧ MarksOk ds' W W5.heap.size) 4000
   ⟨u, [], _, 0, ib0, _, _, _, rfl, rfl, PInv.start HV.out.1 HV.out.2, HL0.out, MarksOk.nil _ _⟩ ?_
  clear u
  rintro m a W ⟨u, ds, st, i, ib, fv, av, ov', rfl, rfl, hP, hL, hmk⟩
  obtain ⟨oa, oc, rfl, -, hro⟩ := RowAt.of_own hL.num.row
  have i0 : W.cell? ⟨ib, 0, none⟩ = some (.int .i64 (i : Int)) := hL.ibk.cell 0
  have o0 : W.cell? ⟨Bo, 0, none⟩ = some (.slice oa st.ord.length oc) := hL.num.bo.cell 0
  have HP := Lib.hid (And.intro hP (And.intro hL (And.intro hmk hro)))
  have hi4 := hP.i4
  have hol := ord_le HV.out.1 HV.out.2 hP.nodup hP.pair
  clear hP hL hmk hro
  by_cases hil : i < st.ord.length
  case neg =>
   have d1 : decide ((i : Int) < (st.ord.length : Int)) = false := decide_eq_false (by omega)
   go_wp2_with fail
   exact HAfter.out _ _ _ ib rfl ⟨st, i, fv, av, _, HP.out.1, HP.out.2.1, HP.out.2.2.1, .inl (by omega)⟩
  have d1 : decide ((i : Int) < (st.ord.length : Int)) = true := decide_eq_true (by omega)
  by_cases h40 : i < 4000
  case neg =>
   have d2 : decide ((i : Int) < 4000) = false := decide_eq_false (by omega)
   go_wp2_with fail
   exact HAfter.out _ _ _ ib rfl ⟨st, i, fv, av, _, HP.out.1, HP.out.2.1, HP.out.2.2.1, .inr (by omega)⟩
  have d2 : decide ((i : Int) < 4000) = true := decide_eq_true (by omega)
  clear HAfter
  obtain ⟨p, hp⟩ : ∃ p, st.ord[i] = p := ⟨_, rfl⟩
  have Hp := Lib.hid hp
  obtain ⟨gb, goff, rfl, hgb, hgc⟩ := HP.out.2.2.2.pairs (by omega)
  obtain ⟨g0, g1⟩ := hgc i hil
  rw [hp] at g0 g1
  clear hgc hp
  go_wp2_with (go_at_call 22; refine (steps_any _ _ _ _ _).mono ?_; rintro e w' ⟨rfl, hwe⟩)
  obtain ⟨W6, hW6⟩ : ∃ W6 : World, W6 = ((W.alloc (.cells #[.map (some bml)] 53)).alloc (.cells #[.map (some bnl)] 53)).alloc (.cells #[.int .i64 p.1, .int .i64 p.2] 50) := ⟨_, rfl⟩
  try rw [hwe]
  rw [← hW6]
  have k0 : Blk W6 W.heap.size #[.map (some bml)] 53 := by rw [hW6]; exact ((Blk.new _ _ _).alloc _).alloc _
  have k1 : Blk W6 (W.heap.size + 1) #[.map (some bnl)] 53 := by rw [hW6]; have := (Blk.new (W.alloc (.cells #[.map (some bml)] 53)) #[.map (some bnl)] 53).alloc (.cells #[.int .i64 p.1, .int .i64 p.2] 50); simpa using this
  have k2 : Blk W6 (W.heap.size + 2) #[.int .i64 p.1, .int .i64 p.2] 50 := by rw [hW6]; have := Blk.new ((W.alloc (.cells #[.map (some bml)] 53)).alloc (.cells #[.map (some bnl)] 53)) #[.int .i64 p.1, .int .i64 p.2] 50; simpa using this
  have hb6 : Below W.heap.size W W6 := by rw [hW6]; exact (((Below.refl _ _).alloc (Nat.le_refl _) _).alloc (by simp) _).alloc (by simp; omega) _
  have hs6 : W6.heap.size = W.heap.size + 3 := by rw [hW6]; simp
  obtain ⟨o, ho⟩ : ∃ o, W.heap.size = o := ⟨_, rfl⟩
  rw [ho] at k0 k1 k2 hs6 ⊢
  have hs61 : W6.heap.size ≤ o + 3 := by omega
  have hs62 : o + 3 ≤ W6.heap.size := by omega
  have hL := HP.out.2.1
  have hoW5 : W5.heap.size ≤ o := by have := hL.chg.size; omega
  have hN6 := hL.num.below hb6
  have hO6 := hL.out.below hb6 hL.out.lt
  have hc6 : Chg (fun k => k = b1 ∨ k = Bo ∨ k = bO ∨ ov.ownBlock = some k) W5 W6 := hL.chg.trans (Chg.of_below _ hb6)
  have hlm6 := H5.out.1.chg hc6 (fun h => by rcases h with h | h | h | h; omega; omega; omega; have := H5.out.2.2.2.2.1 _ h; omega) (fun q hq g e h => by have h1 := H5.out.2.2.2.2.2.1 q hq g e; rcases h with h | h | h | h; omega; omega; omega; have := H5.out.2.2.2.2.1 _ h; omega)
  have hln6 := H5.out.2.1.chg hc6 (fun h => by rcases h with h | h | h | h; omega; omega; omega; have := H5.out.2.2.2.2.1 _ h; omega) (fun q hq g e h => by have h1 := H5.out.2.2.2.2.2.2.1 q hq g e; rcases h with h | h | h | h; omega; omega; omega; have := H5.out.2.2.2.2.1 _ h; omega)
  have ht6 : ∀ b, Tch b1 Bo bO W6 b → b < o ∧ (b < w4.heap.size ∨ bO ≤ b) := fun b h => by
   have hz1 := hL.num.isMap.lt
   have hz2 := hL.num.bo.lt
   have hz3 := hL.out.lt
   rcases (tch_iff hN6 hO6 b).1 h with h | h | h | h | h
   ·omega
   ·omega
   ·omega
   ·have h1 := (hL.num.row.lt b h).2
    rcases hL.ovr b h with h2 | h2
    ·have := H5.out.2.2.2.2.1 b h2; omega
    ·omega
   ·have h1 := hL.arc.lt b h
    omega
  obtain ⟨va, hva, hvo, -⟩ := hlm6.look p.1
  obtain ⟨vb, hvb, hwo, -⟩ := hln6.look p.2
  have hnoT : ∀ g, w4.heap.size ≤ g → g < bO → ¬ Tch b1 Bo bO W6 g := fun g h1 h2 h => by have := ht6 g h; omega
  have hna : ∀ g, va.ownBlock = some g → ¬ Tch b1 Bo bO W6 g := fun g e => by
   by_cases h0 : lvs M.arcs p.1 = []
   ·rw [hva.1 h0] at e; cases e
   ·have := H5.out.2.2.2.2.2.1 _ (hva.2 h0) g e
    exact hnoT g this.1 this.2
  have hnb : ∀ g, vb.ownBlock = some g → ¬ Tch b1 Bo bO W6 g := fun g e => by
   by_cases h0 : lvs N.arcs p.2 = []
   ·rw [hvb.1 h0] at e; cases e
   ·have := H5.out.2.2.2.2.2.2.1 _ (hvb.2 h0) g e
    exact hnoT g this.1 this.2
  have hSt : StepsAt (Tch b1 Bo bO) W6 o (o + 2) (o + 1) bml bnl (lvs M.arcs p.1) (lvs N.arcs p.2) p.1 p.2 va vb :=
   ⟨⟨_, k0⟩, ⟨_, k1⟩, ⟨_, k2⟩, fun h => by have := ht6 _ h; omega, fun h => by have := ht6 _ h; omega, fun h => by have := ht6 _ h; omega,
    fun W' hw => hlm6.look_at hw hva, fun W' hw => hln6.look_at hw hvb, own_base hvo (Nat.zero_le _), own_base hwo (Nat.zero_le _), hna, hnb, ⟨hlm6.isMap.lt, hln6.isMap.lt⟩, fun b h => by have := ht6 b h; omega⟩
  have hLk : Looks (Tch b1 Bo bO) (bO + 1) := tch_looks (by omega) (by omega)
  have hbO6 : bO + 1 ≤ W6.heap.size := by omega
  obtain ⟨SQ, hSQ⟩ : ∃ SQ, SQ = stepsL M.arcs N.arcs p := ⟨_, rfl⟩
  have hsq := hSQ.trans (stepsL_eq M.arcs N.arcs p)
  have hlenA : (lvs M.arcs p.1).length ≤ 20000 := Nat.le_trans (List.length_filter_le _ _) HV.out.1.arcsLen
  have hlenB : (lvs N.arcs p.2).length ≤ 20000 := Nat.le_trans (List.length_filter_le _ _) HV.out.2.arcsLen
  have hmid : ∀ pre : List {x // x ∈ SQ}, pre.length ≤ SQ.length → MInv M N i st ((pre.map (·.1)).foldl (stepO i) st) := fun pre h => HP.out.1.mid HV.out.1 HV.out.2 hil (fun s hs => by
   obtain ⟨x, _, rfl⟩ := List.mem_map.1 hs
   rw [Hp.out, ← hSQ]; exact x.2) (by rw [Hp.out, ← hSQ, List.length_map]; exact h)
  have hib : ¬ Tch b1 Bo bO W6 ib := fun h => by
   have h1 := hL.ibl
   rcases (tch_iff hN6 hO6 ib).1 h with h | h | h | h | h
   ·omega
   ·omega
   ·omega
   ·exact hL.ibk.own_ne hL.num.row (by decide) h
   ·exact hL.ibk.own_ne hL.arc (by decide) h
  have hi8 : ¬ Tch b1 Bo bO W6 B8 := fun h => by
   rcases (tch_iff hN6 hO6 B8).1 h with h | h | h | h | h
   ·omega
   ·omega
   ·omega
   ·rcases hL.ovr _ h with h | h
    ·have := H5.out.2.2.2.2.2.2.2 _ h; omega
    ·omega
   ·have := hL.arc.lt _ h; omega
  have hib6 : Blk W6 ib #[.int .i64 (i : Int)] 3 := hL.ibk.below hb6 hL.ibk.lt
  have h86 : Blk W6 B8 #[.func (.func 20) #[] #[.pointer (some ⟨Bn, 0, none⟩), .pointer (some ⟨Bo, 0, none⟩)]] T3 := H5.out.2.2.1.chg hc6 (fun h => by
   rcases h with h | h | h | h
   ·omega
   ·omega
   ·omega
   ·have := H5.out.2.2.2.2.2.2.2 _ h; omega)
  have hibo : ib < o := by have := hL.ibk.lt; omega
  have hml6 : bml < W6.heap.size ∧ ¬ Tch b1 Bo bO W6 bml := ⟨by omega, hnoT _ hbm hml⟩
  have hnl6 : bnl < W6.heap.size ∧ ¬ Tch b1 Bo bO W6 bnl := ⟨by omega, hnoT _ hbn hnl⟩
  have hin : ∀ (x : {x // x ∈ SQ}), True := fun _ => trivial
  have H6 := Lib.hid (And.intro hN6 (And.intro hO6 (And.intro hc6 (And.intro hSt (And.intro hLk (And.intro hsq (And.intro hmid (And.intro ht6 (And.intro hml6 (And.intro hnl6 (And.intro hSQ (And.intro hb6 (And.intro hib (And.intro hi8 (And.intro hib6 h86)))))))))))))))
  clear hin hib hi8 hib6 h86 hwe hW6 k0 k1 k2 hb6 hs6 hL hN6 hO6 hc6 hlm6 hln6 ht6 hva hvo hvb hwo hnoT hna hnb hSt hLk hsq hmid hml6 hnl6 hSQ i0 o0 g0 g1 d1 d2
  refine wp_reframe (fun u => (List.toArray (α := Value) (.agg #[.int .i64 M.states, .int .i64 M.start, .slice fa M.final.length fc, .slice aa M.arcs.length ac] :: .agg #[.int .i64 N.states, .int .i64 N.start, .slice fb N.final.length fd, .slice ab N.arcs.length ad] :: .pointer (some ⟨b0, 0, none⟩) :: .pointer (some ⟨bN, 0, none⟩) :: .pointer (some ⟨bR, 0, none⟩) :: .int .i64 0 :: .pointer (some ⟨Bn, 0, none⟩) :: .pointer (some ⟨Bo, 0, none⟩) :: .pointer (some ⟨B8, 0, none⟩) :: .map (some bml) :: .map (some bnl) :: .pointer (some ⟨bO, 0, none⟩) :: .pointer (some ⟨ib, 0, none⟩) :: u 13 :: u 14 :: u 15 :: u 16 :: u 17 :: u 18 :: u 19 :: u 20 :: u 21 :: u 22 :: u 23 :: u 24 :: u 25 :: u 26 :: u 27 :: u 28 :: u 29 :: u 30 :: u 31 :: u 32 :: u 33 :: u 34 :: u 35 :: u 36 :: u 37 :: u 38 :: u 39 :: u 40 :: u 41 :: u 42 :: u 43 :: u 44 :: u 45 :: u 46 :: u 47 :: u 48 :: u 49 :: u 50 :: u 51 :: u 52 :: u 53 :: u 54 :: u 55 :: u 56 :: u 57 :: .func (.func 41) #[] #[.pointer (some ⟨o, 0, none⟩), .pointer (some ⟨o + 2, 0, none⟩), .pointer (some ⟨o + 1, 0, none⟩)] :: u 59 :: u 60 :: u 61 :: u 62 :: u 63 :: u 64 :: u 65 :: u 66 :: u 67 :: u 68 :: u 69 :: u 70 :: u 71 :: u 72 :: u 73 :: u 74 :: u 75 :: u 76 :: u 77 :: u 78 :: u 79 :: u 80 :: u 81 :: u 82 :: u 83 :: u 84 :: u 85 :: u 86 :: u 87 :: u 88 :: u 89 :: u 90 :: u 91 :: u 92 :: u 93 :: u 94 :: u 95 :: u 96 :: u 97 :: u 98 :: u 99 :: u 100 :: u 101 :: u 102 :: u 103 :: u 104 :: u 105 :: u 106 :: u 107 :: u 108 :: u 109 :: u 110 :: u 111 :: u 112 :: u 113 :: u 114 :: u 115 :: u 116 :: u 117 :: u 118 :: u 119 :: []))) rfl ?_
  clear u
  intro u
  refine (wpIn_wide (n := 5)).1 ?_
  refine wpIn_range_rounds (α := {x // x ∈ SQ}) (encs := fun x => #[.agg #[.int .i64 0, .int .i64 x.1.inp, .int .i64 x.1.out, .int .i64 0], .agg #[.int .i64 x.1.dst.1, .int .i64 x.1.dst.2]]) (Kp := KpT (Tch b1 Bo bO) bml bnl) (S := fun ys => ys.map (·.1) = SQ) (Sp := fun _ => True) (N := SQ.length) (w0 := W6)
   rfl (by omega) (gf := 41) (lb := #[.pointer (some ⟨o, 0, none⟩), .pointer (some ⟨o + 2, 0, none⟩), .pointer (some ⟨o + 1, 0, none⟩)]) rfl trivial (enters_of Tryz.func41 (by kernel_rfl) rfl)
   ?seq (fun h k => h.trans k) ?kb (Below.refl _ _) (fun _ => rfl)
   (fun pre W => ∃ (av' ov2 : Value), NumAt W Bn Bo b1 b1 ((pre.map (·.1)).foldl (stepO i) st).ord ov2 ∧ Blk W bO #[.int .i64 0, .int .i64 0, fv, av'] 25 ∧ arcRow W W5.heap.size av' ((pre.map (·.1)).foldl (stepO i) st).arcs ∧ Chg (fun k => Tch b1 Bo bO W6 k) W6 W ∧
    (∀ g, ov2.ownBlock = some g → (Value.slice (some ⟨gb, goff, none⟩) st.ord.length oc).ownBlock = some g ∨ W6.heap.size ≤ g) ∧ (∀ g, av'.ownBlock = some g → av.ownBlock = some g ∨ W6.heap.size ≤ g))
   ?hI ?h0
   (fun Wz x a' W => ∃ g1 g2 ovx avx ordx, a' = { tmps := (List.toArray (α := Value) (.agg #[.int .i64 M.states, .int .i64 M.start, .slice fa M.final.length fc, .slice aa M.arcs.length ac] :: .agg #[.int .i64 N.states, .int .i64 N.start, .slice fb N.final.length fd, .slice ab N.arcs.length ad] :: .pointer (some ⟨b0, 0, none⟩) :: .pointer (some ⟨bN, 0, none⟩) :: .pointer (some ⟨bR, 0, none⟩) :: .int .i64 0 :: .pointer (some ⟨Bn, 0, none⟩) :: .pointer (some ⟨Bo, 0, none⟩) :: .pointer (some ⟨B8, 0, none⟩) :: .map (some bml) :: .map (some bnl) :: .pointer (some ⟨bO, 0, none⟩) :: .pointer (some ⟨ib, 0, none⟩) :: .pointer (some ⟨g1, 0, none⟩) :: .pointer (some ⟨g2, 0, none⟩) :: u 15 :: u 16 :: u 17 :: u 18 :: u 19 :: u 20 :: u 21 :: u 22 :: u 23 :: u 24 :: u 25 :: u 26 :: u 27 :: u 28 :: u 29 :: u 30 :: u 31 :: u 32 :: u 33 :: u 34 :: u 35 :: u 36 :: u 37 :: u 38 :: u 39 :: u 40 :: u 41 :: u 42 :: u 43 :: u 44 :: u 45 :: u 46 :: u 47 :: u 48 :: u 49 :: u 50 :: u 51 :: u 52 :: u 53 :: u 54 :: u 55 :: u 56 :: u 57 :: .func (.func 41) #[] #[.pointer (some ⟨o, 0, none⟩), .pointer (some ⟨o + 2, 0, none⟩), .pointer (some ⟨o + 1, 0, none⟩)] :: .agg #[.int .i64 0, .int .i64 x.1.inp, .int .i64 x.1.out, .int .i64 0] :: .agg #[.int .i64 x.1.dst.1, .int .i64 x.1.dst.2] :: u 61 :: u 62 :: u 63 :: u 64 :: u 65 :: u 66 :: u 67 :: u 68 :: u 69 :: u 70 :: u 71 :: u 72 :: u 73 :: u 74 :: u 75 :: u 76 :: u 77 :: u 78 :: u 79 :: u 80 :: u 81 :: u 82 :: u 83 :: u 84 :: u 85 :: u 86 :: u 87 :: u 88 :: u 89 :: u 90 :: u 91 :: u 92 :: u 93 :: u 94 :: u 95 :: u 96 :: u 97 :: u 98 :: u 99 :: u 100 :: u 101 :: u 102 :: u 103 :: u 104 :: u 105 :: u 106 :: u 107 :: u 108 :: u 109 :: u 110 :: u 111 :: u 112 :: u 113 :: u 114 :: u 115 :: u 116 :: u 117 :: u 118 :: u 119 :: [])), defers := [] } ∧ Blk W g1 #[.int .i64 0, .int .i64 x.1.inp, .int .i64 x.1.out, .int .i64 0] 40 ∧ Blk W g2 #[.int .i64 x.1.dst.1, .int .i64 x.1.dst.2] 50 ∧ Blk W Bo #[ovx] 48 ∧ Blk W bO #[.int .i64 0, .int .i64 0, fv, avx] 25 ∧ avx.ownBlock ≠ some g1 ∧ ovx.ownBlock ≠ some g2 ∧ W6.heap.size ≤ g1 ∧ g1 < g2 ∧ Wz.heap.size ≤ g1 ∧ NumAt Wz Bn Bo b1 b1 ordx ovx ∧ Blk Wz bO #[.int .i64 0, .int .i64 0, fv, avx] 25 ∧ Wz.heap.size ≤ W.heap.size ∧ W.heap[bml]? = Wz.heap[bml]? ∧ W.heap[bnl]? = Wz.heap[bnl]? ∧ ∀ b cs t, Blk Wz b cs t → Blk W b cs t) ?hAx ?assign ?body ?done
  case seq => exact steps_seq 4 (by omega) o (o + 2) (o + 1) bml bnl _ _ p.1 p.2 va vb hlenA hlenB (Tch b1 Bo bO) (bO + 1) H6.out.2.2.2.2.1 SQ H6.out.2.2.2.2.2.1 W6 H6.out.2.2.2.1 hbO6
  case kb =>
   intro W l ob ob' hl h1 h2
   exact kpt_put h1 h2 (by omega) (by omega) (by omega) (by omega)
  case hI =>
   rintro pre X Y row ⟨av', ov2, h1, h2, h3, h4, h5, h6⟩ hg hr
   exact ⟨av', ov2, h1.grown hg (fun r e => ⟨by have := (hr r e).1; omega, (hr r e).2⟩), ownBlk h2 hg (fun r e => (hr r e).2), own_cells h3 (fun _ _ _ _ hb => ownBlk hb hg (fun r e => (hr r e).2)), h4.grown hg (fun r e => (hr r e).1), h5, h6⟩
  case h0 =>
   exact ⟨av, _, H6.out.1, H6.out.2.1, own_below HP.out.2.1.arc H6.out.2.2.2.2.2.2.2.2.2.2.2.1, Chg.refl _ _, fun g e => .inl e, fun g e => .inl e⟩
  case hAx =>
   rintro Wz x a' _ X Y row ⟨g1, g2, ovx, avx, ordx, rfl, k1, k2, k3, k4, k5, k6, k7, k8, k9, ka, kb, kc, kd, ke, kf⟩ hg hr
   have hzm := H6.out.2.2.2.2.2.2.2.2.1.1
   have hzn := H6.out.2.2.2.2.2.2.2.2.2.1.1
   have hzX : W6.heap.size ≤ X.heap.size := by have := k1.lt; omega
   exact ⟨g1, g2, ovx, avx, ordx, rfl, ownBlk k1 hg (fun r e => (hr r e).2), ownBlk k2 hg (fun r e => (hr r e).2), ownBlk k3 hg (fun r e => (hr r e).2), ownBlk k4 hg (fun r e => (hr r e).2), k5, k6, k7, k8, k9, ka, kb, Nat.le_trans kc hg.size,
    (hg.block bml (by omega) (fun e => by have := (hr _ e.symm).1; omega)).trans kd, (hg.block bnl (by omega) (fun e => by have := (hr _ e.symm).1; omega)).trans ke, fun b cs t h => ownBlk (kf b cs t h) hg (fun r e => (hr r e).2)⟩
  case assign =>
   rintro l pre x W K ⟨av', ov2, h1, h2, h3, h4, h5, h6⟩ hK
   have hz := h4.size
   have hb : Below W.heap.size W ((W.alloc (.cells #[.int .i64 0, .int .i64 x.1.inp, .int .i64 x.1.out, .int .i64 0] 40)).alloc (.cells #[.int .i64 x.1.dst.1, .int .i64 x.1.dst.2] 50)) := ((Below.refl _ _).alloc (Nat.le_refl _) _).alloc (by simp) _
   have Hb := Lib.hid hb
   have hn2 : Blk ((W.alloc (.cells #[.int .i64 0, .int .i64 x.1.inp, .int .i64 x.1.out, .int .i64 0] 40)).alloc (.cells #[.int .i64 x.1.dst.1, .int .i64 x.1.dst.2] 50)) (W.heap.size + 1) #[.int .i64 x.1.dst.1, .int .i64 x.1.dst.2] 50 := by
    have := Blk.new (W.alloc (.cells #[.int .i64 0, .int .i64 x.1.inp, .int .i64 x.1.out, .int .i64 0] 40)) #[.int .i64 x.1.dst.1, .int .i64 x.1.dst.2] 50; simpa using this
   have Hn2 := Lib.hid hn2
   clear hb hn2
   gi_wp2
   refine hK _ _ ?_ ⟨av', ov2, h1.below Hb.out, h2.below Hb.out h2.lt, own_below h3 Hb.out, h4.trans (Chg.of_below _ Hb.out), h5, h6⟩ ⟨W.heap.size, W.heap.size + 1, ov2, av', _, rfl, (Blk.new _ _ _).alloc _, Hn2.out, h1.bo.below Hb.out h1.bo.lt, h2.below Hb.out h2.lt, fun e => by have := (h3.lt _ e).2; omega, fun e => by have := (h1.row.lt _ e).2; omega, hz, by omega, Nat.le_refl _, h1, h2, Hb.out.size, Hb.out.block _ (by have := H6.out.2.2.2.2.2.2.2.2.1.1; omega), Hb.out.block _ (by have := H6.out.2.2.2.2.2.2.2.2.2.1.1; omega), fun b cs t h => h.below Hb.out h.lt⟩
   exact keepsFrom_chg (S := fun _ => False) _ (Chg.of_below _ Hb.out) (fun _ h => h.elim)
  case body =>
   rintro l pre ⟨s, hs⟩ a' Wz W ⟨av', ov2, h1, h2, h3, h4, h5, h6⟩ ⟨g1, g2, ovx, avx, ordx, rfl, k1, k2, k3, k4, k5, k6, k7, k8, k9, ka, kb, kc, kd, ke, kf⟩ hlt
   have HZ := Lib.hid (And.intro ka (And.intro kb (And.intro kc (And.intro kd (And.intro ke kf)))))
   clear ka kb kc kd ke kf
   dsimp only at k1 k2 ⊢
   have e1 : ovx = ov2 := by
    have h := h1.bo
    unfold Blk at h k3
    rw [k3] at h
    injection h with h
    injection h with h
    simpa using h
   have e2 : avx = av' := by
    unfold Blk at h2 k4
    rw [k4] at h2
    injection h2 with h
    injection h with h
    simpa using h
   subst e1 e2
   have ht : ∀ b, Tch b1 Bo bO W b ↔ _ := tch_iff h1 h2
   have hz4 := h4.size
   have c0' := (H6.out.2.2.2.2.2.2.2.2.2.2.2.2.2.2.1.chg h4 H6.out.2.2.2.2.2.2.2.2.2.2.2.2.1).cell 0
   have c1' := (H6.out.2.2.2.2.2.2.2.2.2.2.2.2.2.2.2.chg h4 H6.out.2.2.2.2.2.2.2.2.2.2.2.2.2.1).cell 0
   have c2' := k2.cell 0
   have c3' := k2.cell 1
   simp only [List.getElem?_toArray, List.getElem?_cons_zero, List.getElem?_cons_succ] at c0' c1' c2' c3'
   have hmm := H6.out.2.2.2.2.2.2.1 pre (by omega)
   have hol' := ord_le HV.out.1 HV.out.2 hmm.nodup hmm.pair
   have hal' := hmm.arcs_le HV.out.1 HV.out.2 hi4
   obtain ⟨st', hst'⟩ : ∃ st', (pre.map (·.1)).foldl (stepO i) st = st' := ⟨_, rfl⟩
   rw [hst'] at h1 h3 hol' hal'
   have Hst := Lib.hid hst'
   have Hh := Lib.hid (And.intro h1 (And.intro h2 (And.intro h3 (And.intro h4 (And.intro h5 (And.intro h6 (And.intro k1 (And.intro k2 (And.intro k5 (And.intro k6 ht))))))))))
   clear h1 h2 h3 h4 h5 h6 k1 k2 k3 k4 k5 k6 ht hmm hst' hlt
   gi_wp2
   refine wpIn_region_held (S := fun w' => w'.cell? ⟨ib, 0, none⟩ = some (.int .i64 (i : Int)) ∧ w'.cell? ⟨B8, 0, none⟩ = some (.func (.func 20) #[] #[.pointer (some ⟨Bn, 0, none⟩), .pointer (some ⟨Bo, 0, none⟩)]) ∧ w'.cell? ⟨g2, 0, none⟩ = some (.int .i64 s.dst.1) ∧ w'.cell? ⟨g2, 1, none⟩ = some (.int .i64 s.dst.2)) (by kernel_rfl) (by kernel_rfl) (by rintro ⟨_, _, h⟩; exact absurd h.1 (by simp)) ?_
   have hS : W.drew.cell? ⟨ib, 0, none⟩ = some (.int .i64 (i : Int)) ∧ W.drew.cell? ⟨B8, 0, none⟩ = some (.func (.func 20) #[] #[.pointer (some ⟨Bn, 0, none⟩), .pointer (some ⟨Bo, 0, none⟩)]) ∧ W.drew.cell? ⟨g2, 0, none⟩ = some (.int .i64 s.dst.1) ∧ W.drew.cell? ⟨g2, 1, none⟩ = some (.int .i64 s.dst.2) := ⟨c0', c1', c2', c3'⟩
   refine wpAnyH_take (i := 0) (v := .int .i64 (i : Int)) rfl (by kernel_rfl) (by kernel_rfl) (by kernel_rfl) (fun _ _ _ h => h) (Or.inl ⟨by rfl, ?_⟩) (by assumption) ?_
   ·rintro w' ⟨s0, s1, s2, s3⟩
    go_simp
   try simp only [Act.put, List.setIfInBounds_toArray]
   refine wpAnyH_take (i := 1) (v := .func (.func 20) #[] #[.pointer (some ⟨Bn, 0, none⟩), .pointer (some ⟨Bo, 0, none⟩)]) rfl (by kernel_rfl) (by kernel_rfl) (by kernel_rfl) (fun _ _ _ h => h) (Or.inl ⟨by rfl, ?_⟩) (by assumption) ?_
   ·rintro w' ⟨s0, s1, s2, s3⟩
    go_simp
   try simp only [Act.put]
   refine wpAnyH_take (i := 2) (v := .agg #[.int .i64 s.dst.1, .int .i64 s.dst.2]) rfl (by kernel_rfl) (by kernel_rfl) (by kernel_rfl) (fun _ _ _ h => h) (Or.inl ⟨by rfl, ?_⟩) (by assumption) ?_
   ·rintro w' ⟨s0, s1, s2, s3⟩
    go_simp
   try simp only [Act.put]
   refine wpAnyH_take (i := 4) (v := .pointer (some ⟨g1, 0, none⟩)) rfl (by kernel_rfl) (by kernel_rfl) (by kernel_rfl) (fun _ _ _ h => h) (Or.inl ⟨by rfl, ?_⟩) (by assumption) ?_
   ·rintro w' ⟨s0, s1, s2, s3⟩
    go_simp
   try simp only [Act.put]
   refine wpAnyH_ready (rs := [3]) (by kernel_rfl) (by simp) (AllReadyH.cons (i := 3) rfl (fun K hK => ?_) AllReadyH.nil)
   simp only [Act.put, List.getElem_toArray, List.getElem_cons_succ, List.getElem_cons_zero, List.setIfInBounds_toArray, List.set_cons_zero, List.set_cons_succ]
   go_simp
   refine (number_any Bn Bo b1 b1 st'.ord ovx s.dst W.drew (by omega) (by have := Hh.out.1.isMap.lt; show b1 ≤ W.heap.size; omega) (Hh.out.1.below ((Below.refl _ _).drew))).mono ?_
   rintro e w5 ⟨rfl, ov3, hN5, ho5, hc5⟩
   obtain ⟨idx, hidx⟩ : ∃ idx : Nat, (addO st'.ord s.dst).idxOf s.dst = idx := ⟨_, rfl⟩
   have hno5 : ∀ k, W6.heap.size ≤ k → ovx.ownBlock ≠ some k → ¬ (k = b1 ∨ k = Bo ∨ ovx.ownBlock = some k) := fun k hk hn h => by
    rcases h with h | h | h
    ·omega
    ·omega
    ·exact hn h
   have hno6 : ∀ k, k ≠ bO → ¬ Tch b1 Bo bO W6 k → (k < W6.heap.size) → ¬ (k = b1 ∨ k = Bo ∨ ovx.ownBlock = some k) := fun k hkb hk hkl h => by
    rcases h with h | h | h
    ·exact hk (.inl h)
    ·exact hk (.inr (.inl h))
    ·rcases Hh.out.2.2.2.2.1 k h with h | h
     ·exact hk ((tch_iff H6.out.1 H6.out.2.1 k).2 (.inr (.inr (.inr (.inl h)))))
     ·omega
   have hib := H6.out.2.2.2.2.2.2.2.2.2.2.2.2.1
   have hi8 := H6.out.2.2.2.2.2.2.2.2.2.2.2.2.2.1
   have hib6 := H6.out.2.2.2.2.2.2.2.2.2.2.2.2.2.2.1
   have h86 := H6.out.2.2.2.2.2.2.2.2.2.2.2.2.2.2.2
   have hibO : ib ≠ bO := by have := HP.out.2.1.ibl; omega
   have hB8O : B8 ≠ bO := by omega
   have hcd : Chg (fun k => k = b1 ∨ k = Bo ∨ ovx.ownBlock = some k) W w5 := (Chg.drewN _ W 1).trans hc5
   have hS5 : w5.cell? ⟨ib, 0, none⟩ = some (.int .i64 (i : Int)) ∧ w5.cell? ⟨B8, 0, none⟩ = some (.func (.func 20) #[] #[.pointer (some ⟨Bn, 0, none⟩), .pointer (some ⟨Bo, 0, none⟩)]) ∧ w5.cell? ⟨g2, 0, none⟩ = some (.int .i64 s.dst.1) ∧ w5.cell? ⟨g2, 1, none⟩ = some (.int .i64 s.dst.2) :=
    ⟨(heap_cell (hcd.block _ (lt_of_cell hS.1) (hno6 ib hibO hib hib6.lt)) 0).trans hS.1, (heap_cell (hcd.block _ (lt_of_cell hS.2.1) (hno6 B8 hB8O hi8 h86.lt)) 0).trans hS.2.1, (heap_cell (hcd.block _ (lt_of_cell hS.2.2.1) (hno5 g2 (by omega) Hh.out.2.2.2.2.2.2.2.2.2.1)) 0).trans hS.2.2.1, (heap_cell (hcd.block _ (lt_of_cell hS.2.2.2) (hno5 g2 (by omega) Hh.out.2.2.2.2.2.2.2.2.2.1)) 1).trans hS.2.2.2⟩
   have hk5 : Blk w5 g1 #[.int .i64 0, .int .i64 s.inp, .int .i64 s.out, .int .i64 0] 40 := Hh.out.2.2.2.2.2.2.1.chg hcd (hno5 g1 k7 (fun e => Hh.out.2.2.2.2.2.2.1.own_ne Hh.out.1.row (by decide) e))
   rw [hidx]
   have Hidx := Lib.hid hidx
   have x0 := hk5.cell 0
   have f0 := hk5.frozen 0
   simp only [List.getElem?_toArray, List.getElem?_cons_zero] at x0
   have H5b := Lib.hid (And.intro hN5 (And.intro ho5 (And.intro hcd hk5)))
   clear hidx hib hi8 hib6 h86 hcd hk5 hN5 ho5 hc5
   refine hK.out _ _ hS5 (fun _ => ?_)
   clear hK K hS c0' c1' c2' c3'
   refine wpAnyH_ready (rs := [5]) (by kernel_rfl) (by simp) (AllReadyH.cons (i := 5) rfl (fun K hK => ?_) AllReadyH.nil)
   simp only [Act.put, List.getElem_toArray, List.getElem_cons_succ, List.getElem_cons_zero]
   go_simp
   have hne1 : ib ≠ g1 := by omega
   have hne2 : B8 ≠ g1 := by have := HP.out.2.1.ibl; omega
   have hne3 : g2 ≠ g1 := by omega
   have hset : ∀ (X : World) (j : Nat) (v : Value), (X.cell? ⟨ib, 0, none⟩ = some (.int .i64 (i : Int)) ∧ X.cell? ⟨B8, 0, none⟩ = some (.func (.func 20) #[] #[.pointer (some ⟨Bn, 0, none⟩), .pointer (some ⟨Bo, 0, none⟩)]) ∧ X.cell? ⟨g2, 0, none⟩ = some (.int .i64 s.dst.1) ∧ X.cell? ⟨g2, 1, none⟩ = some (.int .i64 s.dst.2)) →
     ((X.setCell ⟨g1, j, none⟩ v).cell? ⟨ib, 0, none⟩ = some (.int .i64 (i : Int)) ∧ (X.setCell ⟨g1, j, none⟩ v).cell? ⟨B8, 0, none⟩ = some (.func (.func 20) #[] #[.pointer (some ⟨Bn, 0, none⟩), .pointer (some ⟨Bo, 0, none⟩)]) ∧ (X.setCell ⟨g1, j, none⟩ v).cell? ⟨g2, 0, none⟩ = some (.int .i64 s.dst.1) ∧ (X.setCell ⟨g1, j, none⟩ v).cell? ⟨g2, 1, none⟩ = some (.int .i64 s.dst.2)) := fun X j v h =>
    ⟨(World.cell?_setCell_other X ⟨g1, j, none⟩ ⟨ib, 0, none⟩ v (fun e => hne1 (by injection e with e _ _; exact e.symm))).trans h.1, (World.cell?_setCell_other X ⟨g1, j, none⟩ ⟨B8, 0, none⟩ v (fun e => hne2 (by injection e with e _ _; exact e.symm))).trans h.2.1, (World.cell?_setCell_other X ⟨g1, j, none⟩ ⟨g2, 0, none⟩ v (fun e => hne3 (by injection e with e _ _; exact e.symm))).trans h.2.2.1, (World.cell?_setCell_other X ⟨g1, j, none⟩ ⟨g2, 1, none⟩ v (fun e => hne3 (by injection e with e _ _; exact e.symm))).trans h.2.2.2⟩
   refine hK.out _ _ (hset _ _ _ hS5) (fun _ => ?_)
   clear hK K
   obtain ⟨w6, hw6⟩ : ∃ w6 : World, w6 = w5.setCell ⟨g1, 0, none⟩ (.int .i64 (i : Int)) := ⟨_, rfl⟩
   have hk6 : Blk w6 g1 #[.int .i64 (i : Int), .int .i64 s.inp, .int .i64 s.out, .int .i64 0] 40 := by rw [hw6]; have := H5b.out.2.2.2.set_ 0 (.int .i64 (i : Int)); simpa using this
   have hS6 := hset w5 0 (.int .i64 (i : Int)) hS5
   rw [← hw6] at hS6 ⊢
   have Hw6 := Lib.hid hw6
   have Hk6 := Lib.hid hk6
   have x3 : w6.cell? ⟨g1, 3, none⟩ = some (.int .i64 0) := hk6.cell 3
   have f3 := hk6.frozen 3
   clear hw6 hk6 hS5 x0 f0
   refine wpAnyH_take (i := 6) (v := .pointer (some ⟨g1, 3, none⟩)) rfl (by kernel_rfl) (by kernel_rfl) (by kernel_rfl) (fun _ _ _ h => h) (Or.inl ⟨by rfl, ?_⟩) (by assumption) ?_
   ·rintro w' ⟨s0, s1, s2, s3⟩
    go_simp
   try simp only [Act.put, List.setIfInBounds_toArray]
   refine wpAnyH_ready (rs := [7]) (by kernel_rfl) (by simp) (AllReadyH.cons (i := 7) rfl (fun K hK => ?_) AllReadyH.nil)
   simp only [Act.put, List.getElem_toArray, List.getElem_cons_succ, List.getElem_cons_zero, List.set_cons_zero, List.set_cons_succ]
   go_simp
   refine hK.out _ _ (hset _ _ _ hS6) (fun _ => ?_)
   clear hK K hset
   refine wpAnyH_done (by kernel_rfl) ?_ _
   obtain ⟨w7, hw7⟩ : ∃ w7 : World, w7 = w6.setCell ⟨g1, 3, none⟩ (.int .i64 (idx : Int)) := ⟨_, rfl⟩
   rw [← hw7]
   have hk7 : Blk w7 g1 #[.int .i64 (i : Int), .int .i64 s.inp, .int .i64 s.out, .int .i64 (idx : Int)] 40 := by rw [hw7]; have := Hk6.out.set_ 3 (.int .i64 (idx : Int)); simpa using this
   have hc57 : Chg (fun k => k = g1) w5 w7 := by
    rw [hw7, Hw6.out]
    exact (Chg.setCell (S := fun k => k = g1) (p := ⟨g1, 0, none⟩) _ (.inl rfl) _).trans (Chg.setCell (S := fun k => k = g1) (p := ⟨g1, 3, none⟩) _ (.inl rfl) _)
   have hz57 : w7.heap.size = w5.heap.size := by rw [hw7, Hw6.out]; simp [World.setCell]
   have hO5 : Blk w5 bO #[.int .i64 0, .int .i64 0, fv, avx] 25 := Hh.out.2.1.chg H5b.out.2.2.1 (fun h => by
    rcases h with h | h | h
    ·omega
    ·omega
    ·exact Hh.out.2.1.own_ne Hh.out.1.row (by decide) h)
   have hO7 := hO5.chg hc57 (show bO ≠ g1 by omega)
   have hg1n : ∀ g, ov3.ownBlock = some g → g ≠ g1 := fun g e e' => by
    have h5 := H5b.out.2.2.2
    exact h5.own_ne H5b.out.1.row (by decide) (by rw [← e']; exact e)
   have hN7 := H5b.out.1.chg hc57 (fun h => by have := H5b.out.1.bn; have h5 := H5b.out.2.2.2; unfold Blk at this h5; rw [h, h5] at this; injection this with h; injection h with _ h; exact absurd h (by decide)) (show Bo ≠ g1 by omega) (show b1 ≠ g1 by omega) hg1n
   have hA5 : arcRow w5 W5.heap.size avx st'.arcs := own_chg Hh.out.2.2.1 H5b.out.2.2.1 (fun g e h => by
    rcases h with h | h | h
    ·have := (Hh.out.2.2.1.lt g e).1; omega
    ·have := (Hh.out.2.2.1.lt g e).1; omega
    ·rcases own_ne Hh.out.1.row Hh.out.2.2.1 (by decide) with h1 | h1
     ·rw [h1] at h; cases h
     ·exact h1 (h.trans e.symm))
   have hA7 : arcRow w7 W5.heap.size avx st'.arcs := own_chg hA5 hc57 (fun g e h => Hh.out.2.2.2.2.2.2.2.2.1 (by rw [e, h]))
   have H7 := Lib.hid (And.intro hk7 (And.intro hO7 (And.intro hN7 (And.intro hA7 (And.intro hc57 hz57)))))
   obtain ⟨ava, avc, rfl, -, -⟩ := RowAt.of_own hA7
   have y3 : w7.cell? ⟨bO, 3, none⟩ = some (.slice ava st'.arcs.length avc) := hO7.cell 3
   have x0 : w7.cell? ⟨g1, 0, none⟩ = some (.int .i64 (i : Int)) := hk7.cell 0
   have x1 : w7.cell? ⟨g1, 1, none⟩ = some (.int .i64 s.inp) := hk7.cell 1
   have x2 : w7.cell? ⟨g1, 2, none⟩ = some (.int .i64 s.out) := hk7.cell 2
   have x3 : w7.cell? ⟨g1, 3, none⟩ = some (.int .i64 (idx : Int)) := hk7.cell 3
   obtain ⟨j0, hj, hj0, hj1, hj2⟩ := info_parts info_arc
   have hz70 : W5.heap.size ≤ w7.heap.size := by have := H5b.out.2.2.1.size; omega
   clear hw7 hk7 hc57 hz57 hO5 hO7 hg1n hN7 hA5 hA7 hS6 Hw6 Hk6
   go_simp
   gi_wp2_with (gi_at_builtin; refine wpListIn_append_own_at _ rfl _ _ 23 rfl W5.heap.size 40 j0 _ 4 32 Tryz.underlying23 hj hj0 hj1 hj2 rfl (by decide) _ _ _ rfl (World.ownsRow.alloc H7.out.2.2.2.1 _) ⟨w7.heap.size, 0, none⟩ 1 1 [.int .i64 (i : Int), .int .i64 s.inp, .int .i64 s.out, .int .i64 (idx : Int)] rfl rfl (by exact cells_new _ _ _) (by simp [Value.oneCell']) (by unfold maxLen; omega) (by omega) (by simp; omega) ?_)
   intro v8 w8 hown8 hgrow8 _ hat8
   obtain ⟨X, hX⟩ : ∃ X : World, X = w7.alloc (.cells #[.int .i64 (i : Int), .int .i64 s.inp, .int .i64 s.out, .int .i64 (idx : Int)] 40) := ⟨_, rfl⟩
   rw [← hX] at hgrow8
   have hbX : Below w7.heap.size w7 X := by rw [hX]; exact (Below.refl _ _).alloc (Nat.le_refl _) _
   have hrX := own_below H7.out.2.2.2.1 hbX
   have hkeep : ∀ b cs t, t ≠ 40 → Blk w7 b cs t → Blk w8 b cs t := fun b cs t ht hb => (hb.below hbX hb.lt).grown hgrow8 (fun e => (hb.below hbX hb.lt).own_ne hrX (fun e => ht e.symm) e.symm)
   have hO8 := hkeep _ _ _ (by decide) H7.out.2.1
   have hN8 : NumAt w8 Bn Bo b1 b1 (addO st'.ord s.dst) ov3 := ⟨hkeep _ _ _ (by decide) H7.out.2.2.1.bn, hkeep _ _ _ (by decide) H7.out.2.2.1.bo, (H7.out.2.2.1.isMap.below hbX H7.out.2.2.1.isMap.lt).grown hgrow8 (fun e => own_ne_mapB hrX (H7.out.2.2.1.isMap.below hbX H7.out.2.2.1.isMap.lt) e.symm), own_kept_other (own_below H7.out.2.2.1.row hbX) hrX (by decide) hgrow8⟩
   have hc78 : Chg (fun k => (Value.slice ava st'.arcs.length avc).ownBlock = some k) w7 w8 := (Chg.of_below _ hbX).trans (Chg.of_grown hgrow8 (fun r hr => .inl hr))
   have hat9 : ∀ g, v8.ownBlock = some g → (Value.slice ava st'.arcs.length avc).ownBlock = some g ∨ w7.heap.size ≤ g := fun g e => by
    rcases hat8 with h | h
    ·left; rw [← h]; exact e
    ·right; rw [h] at e; injection e with e; omega
   have y8 : w8.cell? ⟨bO, 3, none⟩ = some (.slice ava st'.arcs.length avc) := hO8.cell 3
   have f8 := hO8.frozen 3
   obtain ⟨va8, vc8, rfl, -, -⟩ := RowAt.of_own hown8
   have H8 := Lib.hid (And.intro hO8 (And.intro hN8 (And.intro hown8 (And.intro hc78 hat9))))
   clear hX hbX hrX hkeep hO8 hN8 hown8 hgrow8 hc78 hat8 hat9
   gi_wp2
   have hun : List.foldl (stepO i) st pre.unattach = st' := Hst.out
   rw [hun]
   exact round_end (W6 := W6) (Wz := Wz) (w5 := w5) (w7 := w7) H6.out.1 H6.out.2.1 Hh.out.1 Hh.out.2.2.1 Hh.out.2.2.2.1 Hh.out.2.2.2.2.1 Hh.out.2.2.2.2.2.1 Hh.out.2.2.2.2.2.2.1 HZ.out.1 HZ.out.2.1 HZ.out.2.2.1 HZ.out.2.2.2.1 HZ.out.2.2.2.2.1 HZ.out.2.2.2.2.2 k7 k9 H5b.out.2.1 H5b.out.2.2.1 H7.out.2.2.2.2.1 H8.out.1 H8.out.2.1 H8.out.2.2.1 H8.out.2.2.2.1 H8.out.2.2.2.2 Hidx.out H6.out.2.2.2.2.2.2.2.2.1 H6.out.2.2.2.2.2.2.2.2.2.1 ⟨by omega, by omega, by omega⟩
  case done =>
   rintro D ys W' hD hys ⟨av', ov2, h1, h2, h3, h4, h5, h6⟩ hK
   rw [hys] at h1 h3
   obtain ⟨st2, hst2⟩ : ∃ st2, SQ.foldl (stepO i) st = st2 := ⟨_, rfl⟩
   rw [hst2] at h1 h3
   have hSQ := H6.out.2.2.2.2.2.2.2.2.2.2.1
   have hP2 : PInv M N st2 (i + 1) := by rw [← hst2, hSQ, ← Hp.out]; exact HP.out.1.next HV.out.1 HV.out.2 hil h40
   have hpre : st.ord <+: st2.ord := by rw [← hst2]; exact (fold_nodup i SQ st HP.out.1.nodup).2
   have hL := HP.out.2.1
   have hT6 := tch_iff H6.out.1 H6.out.2.1
   have hlw : ∀ k, Tch b1 Bo bO W6 k → (k = b1 ∨ k = Bo ∨ k = bO ∨ ov.ownBlock = some k) ∨ W5.heap.size ≤ k := fun k h => by
    rcases (hT6 k).1 h with h | h | h | h | h
    ·exact .inl (.inl h)
    ·exact .inl (.inr (.inl h))
    ·exact .inl (.inr (.inr (.inl h)))
    ·rcases hL.ovr k h with h | h
     ·exact .inl (.inr (.inr (.inr h)))
     ·exact .inr h
    ·exact .inr (hL.arc.lt k h).1
   have hfin : W'.ownsRow W5.heap.size 3 1 fv (finO M N st.ord i).length (nums (finO M N st.ord i)) := own_chg (own_below hL.fin H6.out.2.2.2.2.2.2.2.2.2.2.2.1) h4 (fun g e h => by
    have h0 := (hL.fin.lt g e).1
    rcases (hT6 g).1 h with h | h | h | h | h
    ·omega
    ·omega
    ·omega
    ·rcases own_ne hL.fin hL.num.row (by decide) with q | q
     ·rw [q] at e; cases e
     ·exact q (e.trans h.symm)
    ·rcases own_ne hL.fin hL.arc (by decide) with q | q
     ·rw [q] at e; cases e
     ·exact q (e.trans h.symm))
   have hibW := H6.out.2.2.2.2.2.2.2.2.2.2.2.2.2.2.1.chg h4 H6.out.2.2.2.2.2.2.2.2.2.2.2.2.1
   have hcg : Chg (fun k => k = b1 ∨ k = Bo ∨ k = bO ∨ ov.ownBlock = some k) W5 W' := H6.out.2.2.1.trans_if h4 (fun k hk hkl => (hlw k hk).elim id (fun h => by omega))
   have hov2 : ∀ g, ov2.ownBlock = some g → ov.ownBlock = some g ∨ W5.heap.size ≤ g := fun g e => by
    rcases h5 g e with h | h
    ·exact hL.ovr g h
    ·exact .inr (by omega)
   have hbW : Below (b0 + 3) W0 W' := H5.out.2.2.2.1.trans (hcg.below (fun k hk => by
    rcases hk with h | h | h | h
    ·omega
    ·omega
    ·omega
    ·have := H5.out.2.2.2.2.2.2.2 k h; omega) (by have := H5.out.2.2.2.1.size; have := HW.out.2.2.1; omega))
   have hmk' : MarksOk ({ target := .collected D, args := #[] } :: ds) W' W5.heap.size := (HP.out.2.2.1.chg (Chg.of_below (fun _ => False) H6.out.2.2.2.2.2.2.2.2.2.2.2.1) (fun _ _ _ h => h)).cons h4 (fun E hE hE0 h => by
    rcases (hT6 E).1 h with h | h | h | h | h
    ·omega
    ·omega
    ·omega
    ·obtain ⟨cs, t, hb⟩ := own_has H6.out.1.row h
     unfold Blk at hb
     rw [hb] at hE; cases hE
    ·obtain ⟨cs, t, hb⟩ := own_has (own_below hL.arc H6.out.2.2.2.2.2.2.2.2.2.2.2.1) h
     unfold Blk at hb
     rw [hb] at hE; cases hE) hD (by omega) hK
   have hi2 : st2.ord[i]? = some p := get_prefix hpre (by rw [List.getElem?_eq_getElem hil, Hp.out])
   have hz' : o + 3 ≤ W'.heap.size := by have := h4.size; omega
   have HF := Lib.hid (And.intro h1 (And.intro h2 (And.intro h3 (And.intro hP2 (And.intro hpre (And.intro hfin (And.intro hibW (And.intro hcg (And.intro hov2 (And.intro hbW (And.intro hmk' hi2)))))))))))
   clear h1 h2 h3 h4 h5 h6 hst2 hSQ hP2 hpre hL hT6 hlw hfin hibW hcg hov2 hbW hmk' hi2 hK hys
   go_upto_block 1 with (fail)
   rename_i Kt hKt Kb hKb
   refine wp_reframe (fun u => (List.toArray (α := Value) (.agg #[.int .i64 M.states, .int .i64 M.start, .slice fa M.final.length fc, .slice aa M.arcs.length ac] :: .agg #[.int .i64 N.states, .int .i64 N.start, .slice fb N.final.length fd, .slice ab N.arcs.length ad] :: .pointer (some ⟨b0, 0, none⟩) :: .pointer (some ⟨bN, 0, none⟩) :: .pointer (some ⟨bR, 0, none⟩) :: .int .i64 0 :: .pointer (some ⟨Bn, 0, none⟩) :: .pointer (some ⟨Bo, 0, none⟩) :: .pointer (some ⟨B8, 0, none⟩) :: .map (some bml) :: .map (some bnl) :: .pointer (some ⟨bO, 0, none⟩) :: .pointer (some ⟨ib, 0, none⟩) :: u 13 :: u 14 :: u 15 :: u 16 :: u 17 :: u 18 :: u 19 :: u 20 :: u 21 :: u 22 :: u 23 :: u 24 :: u 25 :: u 26 :: u 27 :: u 28 :: u 29 :: u 30 :: u 31 :: u 32 :: u 33 :: u 34 :: u 35 :: u 36 :: u 37 :: u 38 :: u 39 :: u 40 :: u 41 :: u 42 :: u 43 :: u 44 :: u 45 :: u 46 :: u 47 :: u 48 :: u 49 :: u 50 :: u 51 :: u 52 :: u 53 :: u 54 :: u 55 :: u 56 :: u 57 :: u 58 :: u 59 :: u 60 :: u 61 :: u 62 :: u 63 :: u 64 :: u 65 :: u 66 :: u 67 :: u 68 :: u 69 :: u 70 :: u 71 :: u 72 :: u 73 :: u 74 :: u 75 :: u 76 :: u 77 :: u 78 :: u 79 :: u 80 :: u 81 :: u 82 :: u 83 :: u 84 :: u 85 :: u 86 :: u 87 :: u 88 :: u 89 :: u 90 :: u 91 :: u 92 :: u 93 :: u 94 :: u 95 :: u 96 :: u 97 :: u 98 :: u 99 :: u 100 :: u 101 :: u 102 :: u 103 :: u 104 :: u 105 :: u 106 :: u 107 :: u 108 :: u 109 :: u 110 :: u 111 :: u 112 :: u 113 :: u 114 :: u 115 :: u 116 :: u 117 :: u 118 :: u 119 :: []))) rfl ?_
   clear u
   intro u
   have hRow : ∀ wr, Below (b0 + 3) W0 wr → RowAt wr wr.heap.size fa (nums M.final) ∧ RowAt wr wr.heap.size fb (nums N.final) := fun wr hb => by
    have h1 : Below w.heap.size w wr := by rw [HW.out.2.2.2]; exact HW.out.2.1.trans (hb.mono (by omega))
    exact ⟨(Hrows.out.1.below h1 (Nat.le_refl _)).more h1.size, (Hrows.out.2.below h1 (Nat.le_refl _)).more h1.size⟩
   have HRow := Lib.hid hRow
   clear hRow
   obtain ⟨oa2, oc2, rfl, -, hro2⟩ := RowAt.of_own HF.out.1.row
   have hil2 : i < st2.ord.length := by have := HF.out.2.2.2.1.il; omega
   obtain ⟨gb2, goff2, rfl, -, hgc2⟩ := hro2.pairs (by omega)
   obtain ⟨q0, q1⟩ := hgc2 i hil2
   have hpi : st2.ord[i] = p := by have := HF.out.2.2.2.2.2.2.2.2.2.2.2; rw [List.getElem?_eq_getElem hil2] at this; exact Option.some.inj this
   rw [hpi] at q0 q1
   obtain ⟨hmM, hmN, -⟩ := HM.out W' HF.out.2.2.2.2.2.2.2.2.2.1
   have hSW' : W'.cell? ⟨b0, 2, none⟩ = some (.slice fa M.final.length fc) ∧ W'.cell? ⟨bN, 2, none⟩ = some (.slice fb N.final.length fd) ∧ W'.cell? ⟨Bo, 0, none⟩ = some (.slice (some ⟨gb2, goff2, none⟩) st2.ord.length oc2) ∧ W'.cell? ⟨ib, 0, none⟩ = some (.int .i64 (i : Int)) ∧ W'.cell? ⟨gb2, goff2 + i * 2, none⟩ = some (.int .i64 p.1) ∧ W'.cell? ⟨gb2, goff2 + i * 2 + 1, none⟩ = some (.int .i64 p.2) := ⟨hmM.cell 2, hmN.cell 2, HF.out.1.bo.cell 0, HF.out.2.2.2.2.2.2.1.cell 0, q0, q1⟩
   have hfs := fin_step (M := M) (N := N) HF.out.2.2.2.2.1 hil
   rw [Hp.out] at hfs
   have Hfs := Lib.hid hfs
   have hMf := final_most HV.out.1
   have hNf := final_most HV.out.2
   clear hmM hmN hgc2 hro2 hpi q0 q1 hfs
   have hTail : ∀ (T : Array Value) (wx : World), T = (fun u : Nat → Value => (List.toArray (α := Value) (.agg #[.int .i64 M.states, .int .i64 M.start, .slice fa M.final.length fc, .slice aa M.arcs.length ac] :: .agg #[.int .i64 N.states, .int .i64 N.start, .slice fb N.final.length fd, .slice ab N.arcs.length ad] :: .pointer (some ⟨b0, 0, none⟩) :: .pointer (some ⟨bN, 0, none⟩) :: .pointer (some ⟨bR, 0, none⟩) :: .int .i64 0 :: .pointer (some ⟨Bn, 0, none⟩) :: .pointer (some ⟨Bo, 0, none⟩) :: .pointer (some ⟨B8, 0, none⟩) :: .map (some bml) :: .map (some bnl) :: .pointer (some ⟨bO, 0, none⟩) :: .pointer (some ⟨ib, 0, none⟩) :: u 13 :: u 14 :: u 15 :: u 16 :: u 17 :: u 18 :: u 19 :: u 20 :: u 21 :: u 22 :: u 23 :: u 24 :: u 25 :: u 26 :: u 27 :: u 28 :: u 29 :: u 30 :: u 31 :: u 32 :: u 33 :: u 34 :: u 35 :: u 36 :: u 37 :: u 38 :: u 39 :: u 40 :: u 41 :: u 42 :: u 43 :: u 44 :: u 45 :: u 46 :: u 47 :: u 48 :: u 49 :: u 50 :: u 51 :: u 52 :: u 53 :: u 54 :: u 55 :: u 56 :: u 57 :: u 58 :: u 59 :: u 60 :: u 61 :: u 62 :: u 63 :: u 64 :: u 65 :: u 66 :: u 67 :: u 68 :: u 69 :: u 70 :: u 71 :: u 72 :: u 73 :: u 74 :: u 75 :: u 76 :: u 77 :: u 78 :: u 79 :: u 80 :: u 81 :: u 82 :: u 83 :: u 84 :: u 85 :: u 86 :: u 87 :: u 88 :: u 89 :: u 90 :: u 91 :: u 92 :: u 93 :: u 94 :: u 95 :: u 96 :: u 97 :: u 98 :: u 99 :: u 100 :: u 101 :: u 102 :: u 103 :: u 104 :: u 105 :: u 106 :: u 107 :: u 108 :: u 109 :: u 110 :: u 111 :: u 112 :: u 113 :: u 114 :: u 115 :: u 116 :: u 117 :: u 118 :: u 119 :: []))) (fun k => T[k]?.getD undef) → (∃ fv2, NumAt wx Bn Bo b1 b1 st2.ord (.slice (some ⟨gb2, goff2, none⟩) st2.ord.length oc2) ∧ Blk wx bO #[.int .i64 0, .int .i64 0, fv2, av'] 25 ∧ wx.ownsRow W5.heap.size 3 1 fv2 (finO M N st2.ord (i + 1)).length (nums (finO M N st2.ord (i + 1))) ∧ arcRow wx W5.heap.size av' st2.arcs ∧ Blk wx ib #[.int .i64 (i : Int)] 3 ∧
    Chg (fun k => k = b1 ∨ k = Bo ∨ k = bO ∨ ov.ownBlock = some k) W5 wx ∧ MarksOk ({ target := .collected D, args := #[] } :: ds) wx W5.heap.size) → Kt { tmps := T, defers := { target := .collected D, args := #[] } :: ds } wx := by
    rintro T wx hT ⟨fv2, r1, r2, r3, r4, r5, r6, r7⟩
    obtain ⟨u2, hu2⟩ : ∃ u2 : Nat → Value, u2 = fun k => T[k]?.getD undef := ⟨_, rfl⟩
    rw [← hu2] at hT
    clear hu2
    subst hT
    have ci : wx.cell? ⟨ib, 0, none⟩ = some (.int .i64 (i : Int)) := r5.cell 0
    have HR := Lib.hid (And.intro r1 (And.intro r2 (And.intro r3 (And.intro r4 (And.intro r5 (And.intro r6 r7))))))
    clear r1 r2 r3 r4 r5 r6 r7
    refine hKt _ _ ?_
    clear hKt hKb
    go_wp2_with fail
    obtain ⟨r1, r2, r3, r4, r5, r6, r7⟩ := HR.out
    have hbx : Below wx.heap.size wx (wx.alloc (.cells #[.int .i64 ((i : Int) + 1)] 3)) := (Below.refl _ _).alloc (Nat.le_refl _) _
    have hibn : Blk (wx.alloc (.cells #[.int .i64 ((i : Int) + 1)] 3)) wx.heap.size #[.int .i64 ((i + 1 : Nat) : Int)] 3 := by
     have := Blk.new wx #[.int .i64 ((i : Int) + 1)] 3
     simpa using this
    refine ⟨4000 - (i + 1), by omega, HRel.out _ _ _ _ (i + 1) wx.heap.size rfl rfl ⟨st2, fv2, av', _, HF.out.2.2.2.1, ⟨r1.below hbx, r2.below hbx r2.lt, own_below r3 hbx, own_below r4 hbx, hibn, r2.lt, r6.trans (Chg.of_below _ hbx), HF.out.2.2.2.2.2.2.2.2.1, fun e => by have := (r3.lt _ e).2; omega⟩, r7.chg (Chg.of_below (fun _ => False) hbx) (fun _ _ _ h => h)⟩⟩
   have HTail := Lib.hid hTail
   have HKb := Lib.hid hKb
   clear hTail hKt hKb
   ·have hSb : ∀ wr, Below W'.heap.size W' wr → (wr.cell? ⟨b0, 2, none⟩ = some (.slice fa M.final.length fc) ∧ wr.cell? ⟨bN, 2, none⟩ = some (.slice fb N.final.length fd) ∧ wr.cell? ⟨Bo, 0, none⟩ = some (.slice (some ⟨gb2, goff2, none⟩) st2.ord.length oc2) ∧ wr.cell? ⟨ib, 0, none⟩ = some (.int .i64 (i : Int)) ∧ wr.cell? ⟨gb2, goff2 + i * 2, none⟩ = some (.int .i64 p.1) ∧ wr.cell? ⟨gb2, goff2 + i * 2 + 1, none⟩ = some (.int .i64 p.2)) := fun wr h => by
     obtain ⟨s0, s1, s2, s3, s4, s5⟩ := hSW'
     exact ⟨(h.cell (p := ⟨b0, 2, none⟩) (lt_of_cell s0)).trans s0, (h.cell (p := ⟨bN, 2, none⟩) (lt_of_cell s1)).trans s1, (h.cell (p := ⟨Bo, 0, none⟩) (lt_of_cell s2)).trans s2, (h.cell (p := ⟨ib, 0, none⟩) (lt_of_cell s3)).trans s3, (h.cell (p := ⟨gb2, goff2 + i * 2, none⟩) (lt_of_cell s4)).trans s4, (h.cell (p := ⟨gb2, goff2 + i * 2 + 1, none⟩) (lt_of_cell s5)).trans s5⟩
    have HSb := Lib.hid hSb
    have hKeep : ∀ wx, Below W'.heap.size W' wx → NumAt wx Bn Bo b1 b1 st2.ord (.slice (some ⟨gb2, goff2, none⟩) st2.ord.length oc2) ∧ Blk wx bO #[.int .i64 0, .int .i64 0, fv, av'] 25 ∧ wx.ownsRow W5.heap.size 3 1 fv (finO M N st.ord i).length (nums (finO M N st.ord i)) ∧ arcRow wx W5.heap.size av' st2.arcs ∧ Blk wx ib #[.int .i64 (i : Int)] 3 ∧
      Chg (fun k => k = b1 ∨ k = Bo ∨ k = bO ∨ ov.ownBlock = some k) W5 wx ∧ MarksOk ({ target := .collected D, args := #[] } :: ds) wx W5.heap.size := fun wx h =>
     ⟨HF.out.1.below h, HF.out.2.1.below h HF.out.2.1.lt, own_below HF.out.2.2.2.2.2.1 h, own_below HF.out.2.2.1 h, HF.out.2.2.2.2.2.2.1.below h HF.out.2.2.2.2.2.2.1.lt, HF.out.2.2.2.2.2.2.2.1.trans (Chg.of_below _ h), HF.out.2.2.2.2.2.2.2.2.2.2.1.chg (Chg.of_below (fun _ => False) h) (fun _ _ _ h => h)⟩
    have HKeep := Lib.hid hKeep
    have hzW' : b0 + 3 ≤ W'.heap.size := by omega
    clear hSb hKeep
    by_cases hpm : p.1 ∈ M.final
    case neg =>
     have dd : decide (p.1 ∈ M.final) = false := decide_eq_false hpm
     have hfe : finO M N st2.ord (i + 1) = finO M N st.ord i := by rw [Hfs.out, if_neg (fun h => hpm h.1), List.append_nil]
     have Hfe := Lib.hid hfe
     clear hpm hfe
     refine wp_only ?_
     refine wp_region_held_drew (S := fun w' => w'.cell? ⟨b0, 2, none⟩ = some (.slice fa M.final.length fc) ∧ w'.cell? ⟨bN, 2, none⟩ = some (.slice fb N.final.length fd) ∧ w'.cell? ⟨Bo, 0, none⟩ = some (.slice (some ⟨gb2, goff2, none⟩) st2.ord.length oc2) ∧ w'.cell? ⟨ib, 0, none⟩ = some (.int .i64 (i : Int)) ∧ w'.cell? ⟨gb2, goff2 + i * 2, none⟩ = some (.int .i64 p.1) ∧ w'.cell? ⟨gb2, goff2 + i * 2 + 1, none⟩ = some (.int .i64 p.2)) (by kernel_rfl) (show W'.drew.cell? ⟨b0, 2, none⟩ = some (.slice fa M.final.length fc) ∧ W'.drew.cell? ⟨bN, 2, none⟩ = some (.slice fb N.final.length fd) ∧ W'.drew.cell? ⟨Bo, 0, none⟩ = some (.slice (some ⟨gb2, goff2, none⟩) st2.ord.length oc2) ∧ W'.drew.cell? ⟨ib, 0, none⟩ = some (.int .i64 (i : Int)) ∧ W'.drew.cell? ⟨gb2, goff2 + i * 2, none⟩ = some (.int .i64 p.1) ∧ W'.drew.cell? ⟨gb2, goff2 + i * 2 + 1, none⟩ = some (.int .i64 p.2) from hSW') (fun _ => ?_)
     refine wpAnyH_take (i := 0) (v := .pointer (some ⟨b0, 2, none⟩)) rfl (by kernel_rfl) (by kernel_rfl) (by kernel_rfl) (fun _ _ _ h => h) (Or.inl ⟨by rfl, ?_⟩) (by assumption) ?_
     ·rintro w' ⟨s0, s1, s2, s3, s4, s5⟩
      go_simp
     try simp only [Act.put, List.setIfInBounds_toArray]
     refine wpAnyH_take (i := 1) (v := .slice fa M.final.length fc) rfl (by kernel_rfl) (by kernel_rfl) (by kernel_rfl) (fun _ _ _ h => h) (Or.inl ⟨by rfl, ?_⟩) (by assumption) ?_
     ·rintro w' ⟨s0, s1, s2, s3, s4, s5⟩
      go_simp
     try simp only [Act.put]
     refine wpAnyH_take (i := 2) (v := .slice (some ⟨gb2, goff2, none⟩) st2.ord.length oc2) rfl (by kernel_rfl) (by kernel_rfl) (by kernel_rfl) (fun _ _ _ h => h) (Or.inl ⟨by rfl, ?_⟩) (by assumption) ?_
     ·rintro w' ⟨s0, s1, s2, s3, s4, s5⟩
      go_simp
     try simp only [Act.put]
     refine wpAnyH_take (i := 3) (v := .int .i64 (i : Int)) rfl (by kernel_rfl) (by kernel_rfl) (by kernel_rfl) (fun _ _ _ h => h) (Or.inl ⟨by rfl, ?_⟩) (by assumption) ?_
     ·rintro w' ⟨s0, s1, s2, s3, s4, s5⟩
      go_simp
     try simp only [Act.put]
     refine wpAnyH_take (i := 4) (v := .pointer (some ⟨gb2, goff2 + i * 2, none⟩)) rfl (by kernel_rfl) (by kernel_rfl) (by kernel_rfl) (fun _ _ _ h => h) (Or.inl ⟨by rfl, ?_⟩) (by assumption) ?_
     ·rintro w' ⟨s0, s1, s2, s3, s4, s5⟩
      go_simp
     try simp only [Act.put]
     refine wpAnyH_take (i := 5) (v := .pointer (some ⟨gb2, goff2 + i * 2, none⟩)) rfl (by kernel_rfl) (by kernel_rfl) (by kernel_rfl) (fun _ _ _ h => h) (Or.inl ⟨by rfl, ?_⟩) (by assumption) ?_
     ·rintro w' ⟨s0, s1, s2, s3, s4, s5⟩
      go_simp
     try simp only [Act.put]
     refine wpAnyH_take (i := 6) (v := .int .i64 p.1) rfl (by kernel_rfl) (by kernel_rfl) (by kernel_rfl) (fun _ _ _ h => h) (Or.inl ⟨by rfl, ?_⟩) (by assumption) ?_
     ·rintro w' ⟨s0, s1, s2, s3, s4, s5⟩
      go_simp
     try simp only [Act.put]
     refine wpAnyH_ready (rs := [7]) (by kernel_rfl) (by simp) ?_
     refine AllReadyH.cons (i := 7) rfl (fun K hK => ?_) AllReadyH.nil
     simp only [Act.put, List.getElem_toArray, List.getElem_cons_succ, List.getElem_cons_zero, List.setIfInBounds_toArray, List.set_cons_zero, List.set_cons_succ]
     go_simp
     refine (bs_any M.final fa fc _ p.1 (by omega) HV.out.1.inc W'.drew (HRow.out W'.drew HF.out.2.2.2.2.2.2.2.2.2.1.drew).1).mono ?_
     rintro e w2 ⟨j, rfl, hb2⟩
     rw [dd]
     have hbw2 : Below W'.heap.size W' w2 := (Below.refl _ _).drew.trans hb2
     refine hK.out _ _ (HSb.out w2 hbw2) (fun _ => ?_)
     clear hK K
     try simp only [Act.put, List.setIfInBounds_toArray, List.set_cons_zero, List.set_cons_succ]
     refine wpAnyH_take (i := 8) (v := .tuple #[.int .i64 (j : Nat), .bool false]) rfl (by kernel_rfl) (by kernel_rfl) (by kernel_rfl) (fun _ _ _ h => h) (Or.inl ⟨by rfl, ?_⟩) (by assumption) ?_
     ·rintro w' ⟨s0, s1, s2, s3, s4, s5⟩
      go_simp
     try simp only [Act.put, List.setIfInBounds_toArray]
     refine wpAnyH_take (i := 9) (v := .int .i64 (j : Nat)) rfl (by kernel_rfl) (by kernel_rfl) (by kernel_rfl) (fun _ _ _ h => h) (Or.inl ⟨by rfl, ?_⟩) (by assumption) ?_
     ·rintro w' ⟨s0, s1, s2, s3, s4, s5⟩
      go_simp
     try simp only [Act.put]
     refine wpAnyH_take (i := 10) (v := .bool false) rfl (by kernel_rfl) (by kernel_rfl) (by kernel_rfl) (fun _ _ _ h => h) (Or.inl ⟨by rfl, ?_⟩) (by assumption) ?_
     ·rintro w' ⟨s0, s1, s2, s3, s4, s5⟩
      go_simp
     try simp only [Act.put]
     refine wpAnyH_take (i := 11) (v := .int .i64 (j : Nat)) rfl (by kernel_rfl) (by kernel_rfl) (by kernel_rfl) (fun _ _ _ h => h) (Or.inl ⟨by rfl, ?_⟩) (by assumption) ?_
     ·rintro w' ⟨s0, s1, s2, s3, s4, s5⟩
      go_simp
     try simp only [Act.put]
     refine wpAnyH_take (i := 12) (v := .bool false) rfl (by kernel_rfl) (by kernel_rfl) (by kernel_rfl) (fun _ _ _ h => h) (Or.inl ⟨by rfl, ?_⟩) (by assumption) ?_
     ·rintro w' ⟨s0, s1, s2, s3, s4, s5⟩
      go_simp
     try simp only [Act.put]
     refine wpAnyH_done (by kernel_rfl) ?_ _
     go_simp
     refine HKb.out _ _ ?_
     go_wp2_with fail
     refine HTail.out _ _ rfl ?_
     obtain ⟨r1, r2, r3, r4, r5, r6, r7⟩ := HKeep.out w2 hbw2
     exact ⟨fv, r1, r2, by rw [Hfe.out]; exact r3, r4, r5, r6, r7⟩
    have dd : decide (p.1 ∈ M.final) = true := decide_eq_true hpm
    have Hpm := Lib.hid hpm
    clear hpm
    refine wp_only ?_
    refine wp_region_held_drew (S := fun w' => w'.cell? ⟨b0, 2, none⟩ = some (.slice fa M.final.length fc) ∧ w'.cell? ⟨bN, 2, none⟩ = some (.slice fb N.final.length fd) ∧ w'.cell? ⟨Bo, 0, none⟩ = some (.slice (some ⟨gb2, goff2, none⟩) st2.ord.length oc2) ∧ w'.cell? ⟨ib, 0, none⟩ = some (.int .i64 (i : Int)) ∧ w'.cell? ⟨gb2, goff2 + i * 2, none⟩ = some (.int .i64 p.1) ∧ w'.cell? ⟨gb2, goff2 + i * 2 + 1, none⟩ = some (.int .i64 p.2)) (by kernel_rfl) (show W'.drew.cell? ⟨b0, 2, none⟩ = some (.slice fa M.final.length fc) ∧ W'.drew.cell? ⟨bN, 2, none⟩ = some (.slice fb N.final.length fd) ∧ W'.drew.cell? ⟨Bo, 0, none⟩ = some (.slice (some ⟨gb2, goff2, none⟩) st2.ord.length oc2) ∧ W'.drew.cell? ⟨ib, 0, none⟩ = some (.int .i64 (i : Int)) ∧ W'.drew.cell? ⟨gb2, goff2 + i * 2, none⟩ = some (.int .i64 p.1) ∧ W'.drew.cell? ⟨gb2, goff2 + i * 2 + 1, none⟩ = some (.int .i64 p.2) from hSW') (fun _ => ?_)
    refine wpAnyH_take (i := 0) (v := .pointer (some ⟨b0, 2, none⟩)) rfl (by kernel_rfl) (by kernel_rfl) (by kernel_rfl) (fun _ _ _ h => h) (Or.inl ⟨by rfl, ?_⟩) (by assumption) ?_
    ·rintro w' ⟨s0, s1, s2, s3, s4, s5⟩
     go_simp
    try simp only [Act.put, List.setIfInBounds_toArray]
    refine wpAnyH_take (i := 1) (v := .slice fa M.final.length fc) rfl (by kernel_rfl) (by kernel_rfl) (by kernel_rfl) (fun _ _ _ h => h) (Or.inl ⟨by rfl, ?_⟩) (by assumption) ?_
    ·rintro w' ⟨s0, s1, s2, s3, s4, s5⟩
     go_simp
    try simp only [Act.put]
    refine wpAnyH_take (i := 2) (v := .slice (some ⟨gb2, goff2, none⟩) st2.ord.length oc2) rfl (by kernel_rfl) (by kernel_rfl) (by kernel_rfl) (fun _ _ _ h => h) (Or.inl ⟨by rfl, ?_⟩) (by assumption) ?_
    ·rintro w' ⟨s0, s1, s2, s3, s4, s5⟩
     go_simp
    try simp only [Act.put]
    refine wpAnyH_take (i := 3) (v := .int .i64 (i : Int)) rfl (by kernel_rfl) (by kernel_rfl) (by kernel_rfl) (fun _ _ _ h => h) (Or.inl ⟨by rfl, ?_⟩) (by assumption) ?_
    ·rintro w' ⟨s0, s1, s2, s3, s4, s5⟩
     go_simp
    try simp only [Act.put]
    refine wpAnyH_take (i := 4) (v := .pointer (some ⟨gb2, goff2 + i * 2, none⟩)) rfl (by kernel_rfl) (by kernel_rfl) (by kernel_rfl) (fun _ _ _ h => h) (Or.inl ⟨by rfl, ?_⟩) (by assumption) ?_
    ·rintro w' ⟨s0, s1, s2, s3, s4, s5⟩
     go_simp
    try simp only [Act.put]
    refine wpAnyH_take (i := 5) (v := .pointer (some ⟨gb2, goff2 + i * 2, none⟩)) rfl (by kernel_rfl) (by kernel_rfl) (by kernel_rfl) (fun _ _ _ h => h) (Or.inl ⟨by rfl, ?_⟩) (by assumption) ?_
    ·rintro w' ⟨s0, s1, s2, s3, s4, s5⟩
     go_simp
    try simp only [Act.put]
    refine wpAnyH_take (i := 6) (v := .int .i64 p.1) rfl (by kernel_rfl) (by kernel_rfl) (by kernel_rfl) (fun _ _ _ h => h) (Or.inl ⟨by rfl, ?_⟩) (by assumption) ?_
    ·rintro w' ⟨s0, s1, s2, s3, s4, s5⟩
     go_simp
    try simp only [Act.put]
    refine wpAnyH_ready (rs := [7]) (by kernel_rfl) (by simp) ?_
    refine AllReadyH.cons (i := 7) rfl (fun K hK => ?_) AllReadyH.nil
    simp only [Act.put, List.getElem_toArray, List.getElem_cons_succ, List.getElem_cons_zero, List.setIfInBounds_toArray, List.set_cons_zero, List.set_cons_succ]
    go_simp
    refine (bs_any M.final fa fc _ p.1 (by omega) HV.out.1.inc W'.drew (HRow.out W'.drew HF.out.2.2.2.2.2.2.2.2.2.1.drew).1).mono ?_
    rintro e w2 ⟨j, rfl, hb2⟩
    rw [dd]
    have hbw2 : Below W'.heap.size W' w2 := (Below.refl _ _).drew.trans hb2
    refine hK.out _ _ (HSb.out w2 hbw2) (fun _ => ?_)
    clear hK K
    try simp only [Act.put, List.setIfInBounds_toArray, List.set_cons_zero, List.set_cons_succ]
    refine wpAnyH_take (i := 8) (v := .tuple #[.int .i64 (j : Nat), .bool true]) rfl (by kernel_rfl) (by kernel_rfl) (by kernel_rfl) (fun _ _ _ h => h) (Or.inl ⟨by rfl, ?_⟩) (by assumption) ?_
    ·rintro w' ⟨s0, s1, s2, s3, s4, s5⟩
     go_simp
    try simp only [Act.put, List.setIfInBounds_toArray]
    refine wpAnyH_take (i := 9) (v := .int .i64 (j : Nat)) rfl (by kernel_rfl) (by kernel_rfl) (by kernel_rfl) (fun _ _ _ h => h) (Or.inl ⟨by rfl, ?_⟩) (by assumption) ?_
    ·rintro w' ⟨s0, s1, s2, s3, s4, s5⟩
     go_simp
    try simp only [Act.put]
    refine wpAnyH_take (i := 10) (v := .bool true) rfl (by kernel_rfl) (by kernel_rfl) (by kernel_rfl) (fun _ _ _ h => h) (Or.inl ⟨by rfl, ?_⟩) (by assumption) ?_
    ·rintro w' ⟨s0, s1, s2, s3, s4, s5⟩
     go_simp
    try simp only [Act.put]
    refine wpAnyH_take (i := 11) (v := .int .i64 (j : Nat)) rfl (by kernel_rfl) (by kernel_rfl) (by kernel_rfl) (fun _ _ _ h => h) (Or.inl ⟨by rfl, ?_⟩) (by assumption) ?_
    ·rintro w' ⟨s0, s1, s2, s3, s4, s5⟩
     go_simp
    try simp only [Act.put]
    refine wpAnyH_take (i := 12) (v := .bool true) rfl (by kernel_rfl) (by kernel_rfl) (by kernel_rfl) (fun _ _ _ h => h) (Or.inl ⟨by rfl, ?_⟩) (by assumption) ?_
    ·rintro w' ⟨s0, s1, s2, s3, s4, s5⟩
     go_simp
    try simp only [Act.put]
    refine wpAnyH_done (by kernel_rfl) ?_ _
    go_simp
    refine HKb.out _ _ ?_
    have hSw2 := HSb.out w2 hbw2
    clear hSW' dd
    by_cases hpn : p.2 ∈ N.final
    case neg =>
     have dd : decide (p.2 ∈ N.final) = false := decide_eq_false hpn
     have hfe : finO M N st2.ord (i + 1) = finO M N st.ord i := by rw [Hfs.out, if_neg (fun h => hpn h.2), List.append_nil]
     have Hfe := Lib.hid hfe
     clear hpn hfe
     go_upto_region 19 with (fail)
     refine wp_only ?_
     refine wp_region_held_drew (S := fun w' => w'.cell? ⟨b0, 2, none⟩ = some (.slice fa M.final.length fc) ∧ w'.cell? ⟨bN, 2, none⟩ = some (.slice fb N.final.length fd) ∧ w'.cell? ⟨Bo, 0, none⟩ = some (.slice (some ⟨gb2, goff2, none⟩) st2.ord.length oc2) ∧ w'.cell? ⟨ib, 0, none⟩ = some (.int .i64 (i : Int)) ∧ w'.cell? ⟨gb2, goff2 + i * 2, none⟩ = some (.int .i64 p.1) ∧ w'.cell? ⟨gb2, goff2 + i * 2 + 1, none⟩ = some (.int .i64 p.2)) (by kernel_rfl) (show w2.drew.cell? ⟨b0, 2, none⟩ = some (.slice fa M.final.length fc) ∧ w2.drew.cell? ⟨bN, 2, none⟩ = some (.slice fb N.final.length fd) ∧ w2.drew.cell? ⟨Bo, 0, none⟩ = some (.slice (some ⟨gb2, goff2, none⟩) st2.ord.length oc2) ∧ w2.drew.cell? ⟨ib, 0, none⟩ = some (.int .i64 (i : Int)) ∧ w2.drew.cell? ⟨gb2, goff2 + i * 2, none⟩ = some (.int .i64 p.1) ∧ w2.drew.cell? ⟨gb2, goff2 + i * 2 + 1, none⟩ = some (.int .i64 p.2) from hSw2) (fun _ => ?_)
     refine wpAnyH_take (i := 0) (v := .pointer (some ⟨bN, 2, none⟩)) rfl (by kernel_rfl) (by kernel_rfl) (by kernel_rfl) (fun _ _ _ h => h) (Or.inl ⟨by rfl, ?_⟩) (by assumption) ?_
     ·rintro w' ⟨s0, s1, s2, s3, s4, s5⟩
      go_simp
     try simp only [Act.put, List.setIfInBounds_toArray]
     refine wpAnyH_take (i := 1) (v := .slice fb N.final.length fd) rfl (by kernel_rfl) (by kernel_rfl) (by kernel_rfl) (fun _ _ _ h => h) (Or.inl ⟨by rfl, ?_⟩) (by assumption) ?_
     ·rintro w' ⟨s0, s1, s2, s3, s4, s5⟩
      go_simp
     try simp only [Act.put]
     refine wpAnyH_take (i := 2) (v := .slice (some ⟨gb2, goff2, none⟩) st2.ord.length oc2) rfl (by kernel_rfl) (by kernel_rfl) (by kernel_rfl) (fun _ _ _ h => h) (Or.inl ⟨by rfl, ?_⟩) (by assumption) ?_
     ·rintro w' ⟨s0, s1, s2, s3, s4, s5⟩
      go_simp
     try simp only [Act.put]
     refine wpAnyH_take (i := 3) (v := .int .i64 (i : Int)) rfl (by kernel_rfl) (by kernel_rfl) (by kernel_rfl) (fun _ _ _ h => h) (Or.inl ⟨by rfl, ?_⟩) (by assumption) ?_
     ·rintro w' ⟨s0, s1, s2, s3, s4, s5⟩
      go_simp
     try simp only [Act.put]
     refine wpAnyH_take (i := 4) (v := .pointer (some ⟨gb2, goff2 + i * 2, none⟩)) rfl (by kernel_rfl) (by kernel_rfl) (by kernel_rfl) (fun _ _ _ h => h) (Or.inl ⟨by rfl, ?_⟩) (by assumption) ?_
     ·rintro w' ⟨s0, s1, s2, s3, s4, s5⟩
      go_simp
     try simp only [Act.put]
     refine wpAnyH_take (i := 5) (v := .pointer (some ⟨gb2, goff2 + i * 2 + 1, none⟩)) rfl (by kernel_rfl) (by kernel_rfl) (by kernel_rfl) (fun _ _ _ h => h) (Or.inl ⟨by rfl, ?_⟩) (by assumption) ?_
     ·rintro w' ⟨s0, s1, s2, s3, s4, s5⟩
      go_simp
     try simp only [Act.put]
     refine wpAnyH_take (i := 6) (v := .int .i64 p.2) rfl (by kernel_rfl) (by kernel_rfl) (by kernel_rfl) (fun _ _ _ h => h) (Or.inl ⟨by rfl, ?_⟩) (by assumption) ?_
     ·rintro w' ⟨s0, s1, s2, s3, s4, s5⟩
      go_simp
     try simp only [Act.put]
     refine wpAnyH_ready (rs := [7]) (by kernel_rfl) (by simp) ?_
     refine AllReadyH.cons (i := 7) rfl (fun K hK => ?_) AllReadyH.nil
     simp only [Act.put, List.getElem_toArray, List.getElem_cons_succ, List.getElem_cons_zero, List.setIfInBounds_toArray, List.set_cons_zero, List.set_cons_succ]
     go_simp
     refine (bs_any N.final fb fd _ p.2 (by omega) HV.out.2.inc w2.drew (HRow.out w2.drew (HF.out.2.2.2.2.2.2.2.2.2.1.trans (hbw2.drew.mono hzW')) ).2).mono ?_
     rintro e w3 ⟨j2, rfl, hb3⟩
     rw [dd]
     have hbw3 : Below W'.heap.size W' w3 := hbw2.trans (((Below.refl _ _).drew.trans hb3).mono hbw2.size)
     refine hK.out _ _ (HSb.out w3 hbw3) (fun _ => ?_)
     clear hK K
     try simp only [Act.put, List.setIfInBounds_toArray, List.set_cons_zero, List.set_cons_succ]
     refine wpAnyH_take (i := 8) (v := .tuple #[.int .i64 (j2 : Nat), .bool false]) rfl (by kernel_rfl) (by kernel_rfl) (by kernel_rfl) (fun _ _ _ h => h) (Or.inl ⟨by rfl, ?_⟩) (by assumption) ?_
     ·rintro w' ⟨s0, s1, s2, s3, s4, s5⟩
      go_simp
     try simp only [Act.put, List.setIfInBounds_toArray]
     refine wpAnyH_take (i := 9) (v := .int .i64 (j2 : Nat)) rfl (by kernel_rfl) (by kernel_rfl) (by kernel_rfl) (fun _ _ _ h => h) (Or.inl ⟨by rfl, ?_⟩) (by assumption) ?_
     ·rintro w' ⟨s0, s1, s2, s3, s4, s5⟩
      go_simp
     try simp only [Act.put]
     refine wpAnyH_take (i := 10) (v := .bool false) rfl (by kernel_rfl) (by kernel_rfl) (by kernel_rfl) (fun _ _ _ h => h) (Or.inl ⟨by rfl, ?_⟩) (by assumption) ?_
     ·rintro w' ⟨s0, s1, s2, s3, s4, s5⟩
      go_simp
     try simp only [Act.put]
     refine wpAnyH_take (i := 11) (v := .int .i64 (j2 : Nat)) rfl (by kernel_rfl) (by kernel_rfl) (by kernel_rfl) (fun _ _ _ h => h) (Or.inl ⟨by rfl, ?_⟩) (by assumption) ?_
     ·rintro w' ⟨s0, s1, s2, s3, s4, s5⟩
      go_simp
     try simp only [Act.put]
     refine wpAnyH_take (i := 12) (v := .bool false) rfl (by kernel_rfl) (by kernel_rfl) (by kernel_rfl) (fun _ _ _ h => h) (Or.inl ⟨by rfl, ?_⟩) (by assumption) ?_
     ·rintro w' ⟨s0, s1, s2, s3, s4, s5⟩
      go_simp
     try simp only [Act.put]
     refine wpAnyH_done (by kernel_rfl) ?_ _
     go_simp
     go_wp2_with fail
     refine HTail.out _ _ rfl ?_
     obtain ⟨r1, r2, r3, r4, r5, r6, r7⟩ := HKeep.out w3 hbw3
     exact ⟨fv, r1, r2, by rw [Hfe.out]; exact r3, r4, r5, r6, r7⟩
    have dd : decide (p.2 ∈ N.final) = true := decide_eq_true hpn
    have hfe : finO M N st2.ord (i + 1) = finO M N st.ord i ++ [(i : Int)] := by rw [Hfs.out, if_pos ⟨Hpm.out, hpn⟩]
    have Hfe := Lib.hid hfe
    clear hpn hfe
    go_upto_region 19 with (fail)
    refine wp_only ?_
    refine wp_region_held_drew (S := fun w' => w'.cell? ⟨b0, 2, none⟩ = some (.slice fa M.final.length fc) ∧ w'.cell? ⟨bN, 2, none⟩ = some (.slice fb N.final.length fd) ∧ w'.cell? ⟨Bo, 0, none⟩ = some (.slice (some ⟨gb2, goff2, none⟩) st2.ord.length oc2) ∧ w'.cell? ⟨ib, 0, none⟩ = some (.int .i64 (i : Int)) ∧ w'.cell? ⟨gb2, goff2 + i * 2, none⟩ = some (.int .i64 p.1) ∧ w'.cell? ⟨gb2, goff2 + i * 2 + 1, none⟩ = some (.int .i64 p.2)) (by kernel_rfl) (show w2.drew.cell? ⟨b0, 2, none⟩ = some (.slice fa M.final.length fc) ∧ w2.drew.cell? ⟨bN, 2, none⟩ = some (.slice fb N.final.length fd) ∧ w2.drew.cell? ⟨Bo, 0, none⟩ = some (.slice (some ⟨gb2, goff2, none⟩) st2.ord.length oc2) ∧ w2.drew.cell? ⟨ib, 0, none⟩ = some (.int .i64 (i : Int)) ∧ w2.drew.cell? ⟨gb2, goff2 + i * 2, none⟩ = some (.int .i64 p.1) ∧ w2.drew.cell? ⟨gb2, goff2 + i * 2 + 1, none⟩ = some (.int .i64 p.2) from hSw2) (fun _ => ?_)
    refine wpAnyH_take (i := 0) (v := .pointer (some ⟨bN, 2, none⟩)) rfl (by kernel_rfl) (by kernel_rfl) (by kernel_rfl) (fun _ _ _ h => h) (Or.inl ⟨by rfl, ?_⟩) (by assumption) ?_
    ·rintro w' ⟨s0, s1, s2, s3, s4, s5⟩
     go_simp
    try simp only [Act.put, List.setIfInBounds_toArray]
    refine wpAnyH_take (i := 1) (v := .slice fb N.final.length fd) rfl (by kernel_rfl) (by kernel_rfl) (by kernel_rfl) (fun _ _ _ h => h) (Or.inl ⟨by rfl, ?_⟩) (by assumption) ?_
    ·rintro w' ⟨s0, s1, s2, s3, s4, s5⟩
     go_simp
    try simp only [Act.put]
    refine wpAnyH_take (i := 2) (v := .slice (some ⟨gb2, goff2, none⟩) st2.ord.length oc2) rfl (by kernel_rfl) (by kernel_rfl) (by kernel_rfl) (fun _ _ _ h => h) (Or.inl ⟨by rfl, ?_⟩) (by assumption) ?_
    ·rintro w' ⟨s0, s1, s2, s3, s4, s5⟩
     go_simp
    try simp only [Act.put]
    refine wpAnyH_take (i := 3) (v := .int .i64 (i : Int)) rfl (by kernel_rfl) (by kernel_rfl) (by kernel_rfl) (fun _ _ _ h => h) (Or.inl ⟨by rfl, ?_⟩) (by assumption) ?_
    ·rintro w' ⟨s0, s1, s2, s3, s4, s5⟩
     go_simp
    try simp only [Act.put]
    refine wpAnyH_take (i := 4) (v := .pointer (some ⟨gb2, goff2 + i * 2, none⟩)) rfl (by kernel_rfl) (by kernel_rfl) (by kernel_rfl) (fun _ _ _ h => h) (Or.inl ⟨by rfl, ?_⟩) (by assumption) ?_
    ·rintro w' ⟨s0, s1, s2, s3, s4, s5⟩
     go_simp
    try simp only [Act.put]
    refine wpAnyH_take (i := 5) (v := .pointer (some ⟨gb2, goff2 + i * 2 + 1, none⟩)) rfl (by kernel_rfl) (by kernel_rfl) (by kernel_rfl) (fun _ _ _ h => h) (Or.inl ⟨by rfl, ?_⟩) (by assumption) ?_
    ·rintro w' ⟨s0, s1, s2, s3, s4, s5⟩
     go_simp
    try simp only [Act.put]
    refine wpAnyH_take (i := 6) (v := .int .i64 p.2) rfl (by kernel_rfl) (by kernel_rfl) (by kernel_rfl) (fun _ _ _ h => h) (Or.inl ⟨by rfl, ?_⟩) (by assumption) ?_
    ·rintro w' ⟨s0, s1, s2, s3, s4, s5⟩
     go_simp
    try simp only [Act.put]
    refine wpAnyH_ready (rs := [7]) (by kernel_rfl) (by simp) ?_
    refine AllReadyH.cons (i := 7) rfl (fun K hK => ?_) AllReadyH.nil
    simp only [Act.put, List.getElem_toArray, List.getElem_cons_succ, List.getElem_cons_zero, List.setIfInBounds_toArray, List.set_cons_zero, List.set_cons_succ]
    go_simp
    refine (bs_any N.final fb fd _ p.2 (by omega) HV.out.2.inc w2.drew (HRow.out w2.drew (HF.out.2.2.2.2.2.2.2.2.2.1.trans (hbw2.drew.mono hzW')) ).2).mono ?_
    rintro e w3 ⟨j2, rfl, hb3⟩
    rw [dd]
    have hbw3 : Below W'.heap.size W' w3 := hbw2.trans (((Below.refl _ _).drew.trans hb3).mono hbw2.size)
    refine hK.out _ _ (HSb.out w3 hbw3) (fun _ => ?_)
    clear hK K
    try simp only [Act.put, List.setIfInBounds_toArray, List.set_cons_zero, List.set_cons_succ]
    refine wpAnyH_take (i := 8) (v := .tuple #[.int .i64 (j2 : Nat), .bool true]) rfl (by kernel_rfl) (by kernel_rfl) (by kernel_rfl) (fun _ _ _ h => h) (Or.inl ⟨by rfl, ?_⟩) (by assumption) ?_
    ·rintro w' ⟨s0, s1, s2, s3, s4, s5⟩
     go_simp
    try simp only [Act.put, List.setIfInBounds_toArray]
    refine wpAnyH_take (i := 9) (v := .int .i64 (j2 : Nat)) rfl (by kernel_rfl) (by kernel_rfl) (by kernel_rfl) (fun _ _ _ h => h) (Or.inl ⟨by rfl, ?_⟩) (by assumption) ?_
    ·rintro w' ⟨s0, s1, s2, s3, s4, s5⟩
     go_simp
    try simp only [Act.put]
    refine wpAnyH_take (i := 10) (v := .bool true) rfl (by kernel_rfl) (by kernel_rfl) (by kernel_rfl) (fun _ _ _ h => h) (Or.inl ⟨by rfl, ?_⟩) (by assumption) ?_
    ·rintro w' ⟨s0, s1, s2, s3, s4, s5⟩
     go_simp
    try simp only [Act.put]
    refine wpAnyH_take (i := 11) (v := .int .i64 (j2 : Nat)) rfl (by kernel_rfl) (by kernel_rfl) (by kernel_rfl) (fun _ _ _ h => h) (Or.inl ⟨by rfl, ?_⟩) (by assumption) ?_
    ·rintro w' ⟨s0, s1, s2, s3, s4, s5⟩
     go_simp
    try simp only [Act.put]
    refine wpAnyH_take (i := 12) (v := .bool true) rfl (by kernel_rfl) (by kernel_rfl) (by kernel_rfl) (fun _ _ _ h => h) (Or.inl ⟨by rfl, ?_⟩) (by assumption) ?_
    ·rintro w' ⟨s0, s1, s2, s3, s4, s5⟩
     go_simp
    try simp only [Act.put]
    refine wpAnyH_done (by kernel_rfl) ?_ _
    go_simp
    obtain ⟨r1, r2, r3, r4, r5, r6, r7⟩ := HKeep.out w3 hbw3
    obtain ⟨i0, hi, hz0, hz1, hz2⟩ := info_parts info_int
    obtain ⟨fva, fvc, rfl, -, -⟩ := RowAt.of_own r3
    have c2 : w3.cell? ⟨bO, 2, none⟩ = some (.slice fva (finO M N st.ord i).length fvc) := r2.cell 2
    have ci : w3.cell? ⟨ib, 0, none⟩ = some (.int .i64 (i : Int)) := r5.cell 0
    have hfl := finO_len M N st.ord i
    have hzz : W5.heap.size ≤ w3.heap.size := r6.size
    have HR := Lib.hid (And.intro r1 (And.intro r2 (And.intro r3 (And.intro r4 (And.intro r5 (And.intro r6 r7))))))
    clear r1 r2 r3 r4 r5 r6 r7 hSw2 dd
    go_wp2_with (at_builtin; refine wpList_append_own_at _ rfl _ _ 22 rfl W5.heap.size 3 i0 (.int .i64 0) 1 8 Tryz.underlying22 hi hz0 hz1 hz2 rfl (by decide) _ _ _ rfl (World.ownsRow.alloc HR.out.2.2.1 _) ⟨w3.heap.size, 0, none⟩ 1 1 [.int .i64 (i : Int)] rfl rfl (by exact cell_one_new _ _ _) (by simp [Value.oneCell']) (by unfold maxLen; omega) (by omega) (by simp; omega) ?_)
    intro v4 w8 hown4 hgrow4 _ _
    obtain ⟨X, hX⟩ : ∃ X : World, X = w3.alloc (.cells #[.int .i64 (i : Int)] 3) := ⟨_, rfl⟩
    rw [← hX] at hgrow4
    have hbX : Below w3.heap.size w3 X := by rw [hX]; exact (Below.refl _ _).alloc (Nat.le_refl _) _
    obtain ⟨hB8', hO8'⟩ := OutAt.fin_more (h := (⟨HR.out.2.1, HR.out.2.2.1, HR.out.2.2.2.1⟩ : OutAt w3 W5.heap.size bO 0 0 (finO M N st.ord i) st2.arcs _ av')) hbX hown4 hgrow4
    have hc38 : Chg (fun k => (Value.slice fva (finO M N st.ord i).length fvc).ownBlock = some k) w3 w8 := (Chg.of_below _ hbX).trans (Chg.of_grown hgrow4 (fun r hr => .inl hr))
    have y2 : w8.cell? ⟨bO, 2, none⟩ = some (.slice fva (finO M N st.ord i).length fvc) := hB8'.cell 2
    have f2 := hB8'.frozen 2
    obtain ⟨va4, vc4, rfl, -, -⟩ := RowAt.of_own hown4
    have H8 := Lib.hid (And.intro hO8' hc38)
    clear hX hbX hB8' hO8' hc38 hown4 hgrow4
    go_wp2_with fail
    refine HTail.out _ _ rfl ?_
    obtain ⟨hO8', hc38⟩ := H8.out
    obtain ⟨r1, r2, r3, r4, r5, r6, r7⟩ := HR.out
    have hc39 : Chg (fun k => k = bO ∨ (Value.slice fva (finO M N st.ord i).length fvc).ownBlock = some k) w3 (w8.setCell ⟨bO, 2, none⟩ (.slice va4 ((finO M N st.ord i).length + 1) vc4)) :=
     (hc38.mono (fun k h => .inr h)).trans (Chg.setCell (p := ⟨bO, 2, none⟩) w8 (.inl (.inl rfl)) _)
    have hge : ∀ k, (Value.slice fva (finO M N st.ord i).length fvc).ownBlock = some k → W5.heap.size ≤ k := fun k h => (r3.lt k h).1
    refine ⟨_, r1.chg hc39 (fun h => ?_) (fun h => ?_) (fun h => ?_) (fun g e h => ?_), hO8'.blk, by rw [Hfe.out, List.length_append]; have := hO8'.fin; rw [List.length_append] at this; exact this, hO8'.arc, r5.chg hc39 (fun h => ?_), r6.trans_if hc39 (fun k hk hkl => ?_), r7.chg hc39 (fun E hE hE0 h => ?_)⟩
    ·rcases h with h | h
     ·omega
     ·have := hge _ h; omega
    ·rcases h with h | h
     ·omega
     ·have := hge _ h; omega
    ·rcases h with h | h
     ·omega
     ·have := hge _ h; omega
    ·rcases h with h | h
     ·have := r2.own_ne r1.row (by decide); rw [h] at e; exact this e
     ·rcases own_ne r1.row r3 (by decide) with q | q
      ·rw [q] at e; cases e
      ·exact q (e.trans h.symm)
    ·rcases h with h | h
     ·have := HP.out.2.1.ibl; omega
     ·exact HP.out.2.1.fib h
    ·rcases hk with h | h
     ·exact .inr (.inr (.inl h))
     ·have := hge _ h; omega
    ·rcases h with h | h
     ·omega
     ·obtain ⟨cs, t, hb⟩ := own_has r3 h
      unfold Blk at hb
      rw [hb] at hE; cases hE

end Go.Proofs.YtfihjpffjdnahaaGreatDoor
