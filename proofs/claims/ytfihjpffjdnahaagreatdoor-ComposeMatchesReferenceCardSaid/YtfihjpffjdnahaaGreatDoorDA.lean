/- D0 · D3 -/
import Derived.Test.YtfihjpffjdnahaaGreatDoorVS
import Derived.Test.YtfihjpffjdnahaaGreatDoorGX
import Derived.Test.YtfihjpffjdnahaaGreatDoorGT
import Derived.Test.YtfihjpffjdnahaaGreatDoorShelf
import Derived.StillTailTactics
import Derived.Lib.SlicesCompact
import Derived.Lib.SliceRun
import Derived.Test.YtfihjpffjdnahaaGreatDoorPB
import Derived.Test.YtfihjpffjdnahaaGreatDoorV1
import Derived.Test.YtfihjpffjdnahaaGreatDoorVC
import Derived.Test.YtfihjpffjdnahaaGreatDoorGE
/- Walks: compose.compare, slices.Compact at arcs. -/
namespace Go.Proofs.YtfihjpffjdnahaaGreatDoor
open Go.RowKit Go.Shelf Go.Lib Go.Sort Classical

set_option maxRecDepth 100000 in
set_option maxHeartbeats 2000000 in
theorem compareC_any (a b : Arc) (w : World) :
  Calls Tryz.prog 45 #[.agg #[.int .i64 a.frm, .int .i64 a.inp, .int .i64 a.out, .int .i64 a.to], .agg #[.int .i64 b.frm, .int .i64 b.inp, .int .i64 b.out, .int .i64 b.to]] w
   fun e w' => e = .returned (.int .i64 (cmpA a b)) ∧ ∃ o1 o2 o3, w' = (((w.alloc o1).alloc o2).drewN 1).alloc o3 := by
 obtain ⟨W1, hW1⟩ : ∃ W1 : World, W1 = (w.alloc (.cells #[.int .i64 a.frm, .int .i64 a.inp, .int .i64 a.out, .int .i64 a.to] 40)).alloc (.cells #[.int .i64 b.frm, .int .i64 b.inp, .int .i64 b.out, .int .i64 b.to] 40) := ⟨_, rfl⟩
 have ha : Blk W1 w.heap.size #[.int .i64 a.frm, .int .i64 a.inp, .int .i64 a.out, .int .i64 a.to] 40 := by rw [hW1]; exact (Blk.new _ _ _).alloc _
 have hb : Blk W1 (w.heap.size + 1) #[.int .i64 b.frm, .int .i64 b.inp, .int .i64 b.out, .int .i64 b.to] 40 := by
  rw [hW1]; have := Blk.new (w.alloc (.cells #[.int .i64 a.frm, .int .i64 a.inp, .int .i64 a.out, .int .i64 a.to] 40)) #[.int .i64 b.frm, .int .i64 b.inp, .int .i64 b.out, .int .i64 b.to] 40; simpa using this
 have a0 := ha.cell 0
 have a1 := ha.cell 1
 have a2 := ha.cell 2
 have a3 := ha.cell 3
 have b0 := hb.cell 0
 have b1 := hb.cell 1
 have b2 := hb.cell 2
 have b3 := hb.cell 3
 simp only [List.getElem?_toArray, List.getElem?_cons_zero, List.getElem?_cons_succ] at a0 a1 a2 a3 b0 b1 b2 b3
 have HW1 := Lib.hid hW1
 clear hW1 ha hb
 go_enter Tryz.func45, Tryz.ntmps45
 go_wp2_with fail
 rw [← HW1.out]
 refine wp_region_still_tail 20 (by kernel_rfl) (by kernel_rfl) ?_
 simp only [List.take_succ_cons, List.take_zero, List.drop_succ_cons, List.drop_zero]
 repeat (first | still_step | still_call (Tryz.cmp_Compare_int _ _ _))
 refine wpStill_nil ?_
 change wpList _ _ _ _ _ W1.drew
 obtain ⟨c1, h1⟩ : ∃ z, Lib.compareInt a.frm b.frm = z := ⟨_, rfl⟩
 obtain ⟨c2, h2⟩ : ∃ z, Lib.compareInt a.inp b.inp = z := ⟨_, rfl⟩
 obtain ⟨c3, h3⟩ : ∃ z, Lib.compareInt a.out b.out = z := ⟨_, rfl⟩
 obtain ⟨c4, h4⟩ : ∃ z, Lib.compareInt a.to b.to = z := ⟨_, rfl⟩
 rw [h1, h2, h3, h4]
 have Hc := Lib.hid (show cmpA a b = orI [c1, c2, c3, c4] from by rw [cmpA, h1, h2, h3, h4])
 clear h1 h2 h3 h4 a0 a1 a2 a3 b0 b1 b2 b3
 have hrow : RowAt (W1.drew.alloc (.cells (nums [c1, c2, c3, c4]).toArray 3)) (W1.drew.heap.size + 1) (some ⟨W1.drew.heap.size, 0, none⟩) (nums [c1, c2, c3, c4]) := fun _ =>
  ⟨_, 0, rfl, by omega, fun i x hx => by rw [Nat.zero_add]; exact Box.new W1.drew (nums [c1, c2, c3, c4]) 3 i x hx⟩
 have qo := Or_any [c1, c2, c3, c4] _ 4 _ (by simp [maxLen]) _ hrow
 have HQ := Lib.hid qo
 clear qo hrow
 go_wp2_with fail
 refine HQ.out.mono ?_
 rintro e w2 ⟨rfl, hw2⟩
 have Hw2 := Lib.hid hw2
 clear hw2
 go_wp2_with fail
 go_ret
 exact ⟨ret_int Hc.out.symm, _, _, _, by rw [Hw2.out, HW1.out]; rfl⟩

theorem cmpLaysC (blk off size : Nat) (w : World) : CmpLays Tryz.prog 45 #[] Arc.cells 4 cmpA blk off size w := fun m os dk _ x y => by
 refine (compareC_any x y _).mono ?_
 rintro e w' ⟨rfl, o1, o2, o3, rfl⟩
 refine ⟨rfl, 1, #[o1, o2, o3], ?_⟩
 generalize sortWorldK Arc.cells 4 w blk off m dk os = W
 rw [show (W.alloc o1).alloc o2 = grow W #[o1, o2] from by rw [alloc_eq_grow, alloc_eq_grow, grow_grow]; rfl]
 rw [show (grow W #[o1, o2]).drewN 1 = grow (W.drewN 1) #[o1, o2] from rfl, alloc_eq_grow, grow_grow]
 rfl
theorem sortC (l : List Arc) (g c base : Nat) (w : World) (hle : l.length ≤ 1000000000000000) (hown : w.ownsRow base 40 4 (.slice (some ⟨g, 0, none⟩) l.length c) l.length (flat l)) :
  Calls Tryz.prog 44 #[.slice (some ⟨g, 0, none⟩) l.length c, .func (.func 45) #[] #[]] w fun e w' =>
   e = .returned (.tuple #[]) ∧ ∃ S : List Arc, S.length = l.length ∧ S.Perm l ∧ S.Pairwise (fun a b => ¬ b.lt a) ∧ w'.ownsRow base 40 4 (.slice (some ⟨g, 0, none⟩) l.length c) l.length (flat S) ∧ Chg (· = g) w w' := by
 have h := sorted_gen (fun x : Arc => x) cmpA cmpA_lt (fun x y e => e) 45 (enters_of Tryz.func45 (by kernel_rfl) rfl) cmpLaysC l g c base w hle (by rw [List.map_id']; exact hown)
 refine h.mono ?_
 rintro e w' ⟨he, S, h1, h2, h3, h4, h5⟩
 rw [List.map_id'] at h3 h4
 exact ⟨he, S, h1, h2, h3, h4, h5⟩

end Go.Proofs.YtfihjpffjdnahaaGreatDoor

/- Walk: compose.made: a machine with its arcs in order. -/
namespace Go.Proofs.YtfihjpffjdnahaaGreatDoor
open Go.RowKit Go.Shelf Go.Lib Go.Sort Classical

theorem Chg.set_new {S : Nat → Prop} {w W : World} (h : Chg S w W) {p : Addr} (hp : w.heap.size ≤ p.block) (v : Value) : Chg S w (W.setCell p v) :=
 h.trans_new (T := fun k => k = p.block) (Chg.setCell (S := fun k => k = p.block) _ (.inl rfl) _) (fun i hi h => by omega)
def arcRow (w : World) (base : Nat) (v : Value) (l : List Arc) : Prop := w.ownsRow base 40 4 v l.length (flat l)
theorem sort_row (l : List Arc) (v : Value) (base : Nat) (w : World) (hle : l.length ≤ 1000000000000000) (hown : arcRow w base v l) :
  Calls Tryz.prog 44 #[v, .func (.func 45) #[] #[]] w fun e w' =>
   e = .returned (.tuple #[]) ∧ ∃ S : List Arc, S.length = l.length ∧ S.Perm l ∧ S.Pairwise (fun a b => ¬ b.lt a) ∧ arcRow w' base v S ∧ Chg (fun g => v.ownBlock = some g) w w' := by
 by_cases h0 : l.length = 0
 ·obtain ⟨a, c, rfl, -, -⟩ := RowAt.of_own hown
  rw [h0]
  refine Calls.mono (AnyF.slices_SortFunc_none Tryz.sortArc a c (.func (.func 45) #[] #[]) w) ?_
  rintro e w' ⟨rfl, rfl⟩
  have hl := List.length_eq_zero_iff.1 h0
  subst hl
  exact ⟨rfl, [], rfl, List.Perm.refl _, List.Pairwise.nil, hown, Chg.refl _ _⟩
 ·obtain ⟨m, hm⟩ : ∃ m, l.length = m + 1 := ⟨l.length - 1, by omega⟩
  have h2 := hown
  unfold arcRow at h2
  rw [hm] at h2
  obtain ⟨g, cap, e⟩ := own_succ h2
  rw [← hm] at e
  subst e
  refine (sortC l g cap base w hle hown).mono ?_
  rintro e w' ⟨rfl, S, q1, q2, q3, q4, q5⟩
  exact ⟨rfl, S, q1, q2, q3, by unfold arcRow; rw [q1]; exact q4, q5.mono (fun k e => by rw [e]; rfl)⟩
theorem compact_row (S : List Arc) (v : Value) (base : Nat) (w : World) (hle : S.length ≤ 1000000000000000) (hown : arcRow w base v S) :
  Calls Tryz.prog 46 #[v] w fun e w' => ∃ C aa ac, C = compact S ∧ e = .returned (.slice aa C.length ac) ∧ RowAt w' w'.heap.size aa (flat C) ∧ (0 < C.length → ∀ b o, aa = some ⟨b, o, none⟩ → v.ownBlock = some b) ∧ Chg (fun g => v.ownBlock = some g) w w' := by
 by_cases h0 : S.length = 0
 ·obtain ⟨a, c, rfl, -, -⟩ := RowAt.of_own hown
  have hl := List.length_eq_zero_iff.1 h0
  subst hl
  clear hown
  go_enter Tryz.func46, Tryz.ntmps46
  go_wp2
  go_ret
  exact ⟨[], a, c, rfl, rfl, fun h => by simp [flat] at h, fun h => by simp at h, Chg.refl _ _⟩
 ·obtain ⟨m, hm⟩ : ∃ m, S.length = m + 1 := ⟨S.length - 1, by omega⟩
  have h2 := hown
  unfold arcRow at h2
  rw [hm] at h2
  obtain ⟨g, cap, e⟩ := own_succ h2
  rw [← hm] at e
  subst e
  refine (Compact_arcs S g cap base w hle hown).mono ?_
  rintro e w' ⟨rfl, q1, q2⟩
  exact ⟨_, _, _, rfl, rfl, q1, fun _ b o e => by injection e with e; injection e with e1; rw [← e1]; rfl, q2.mono (fun k e => by rw [e]; rfl)⟩
theorem compact_of {l S : List Arc} (hp : S.Perm l) (h : S.Pairwise (fun a b => ¬ b.lt a)) : ArcsOf l (compact S) :=
 ⟨compact_inc h, fun a => by rw [compact_mem, hp.mem_iff]⟩

def MadeBig (st : Int) (S : List Arc) : Prop := 4000 < st ∨ 20000 < S.length
def MadePost (st start : Int) (fa : Option Addr) (fl fc : Nat) (l : List Arc) (av : Value) (w : World) (e : Ending) (w' : World) : Prop :=
 ∃ S, ArcsOf l S ∧ Chg (fun g => av.ownBlock = some g) w w' ∧ ((MadeBig st S ∧ e = .returned (.tuple #[.agg #[.int .i64 0, .int .i64 0, .slice none 0 0, .slice none 0 0], .int .i64 2])) ∨
  (¬ MadeBig st S ∧ ∃ aa ac, e = .returned (.tuple #[.agg #[.int .i64 st, .int .i64 start, .slice fa fl fc, .slice aa S.length ac], .int .i64 0]) ∧ RowAt w' w'.heap.size aa (flat S)))

set_option maxRecDepth 100000 in
set_option maxHeartbeats 4000000 in
theorem made_any (st start : Int) (fa : Option Addr) (fl fc : Nat) (l : List Arc) (av : Value) (base : Nat) (w : World) (hle : l.length ≤ 1000000000000000) (hown : arcRow w base av l) :
  Calls Tryz.prog 24 #[.agg #[.int .i64 st, .int .i64 start, .slice fa fl fc, av]] w (MadePost st start fa fl fc l av w) := by
 obtain ⟨W0, hW0⟩ : ∃ W0 : World, W0 = (w.alloc (.cells #[.int .i64 st, .int .i64 start, .slice fa fl fc, av] 25)).alloc (.cells #[.int .i64 0, .int .i64 0, .slice none 0 0, .slice none 0 0] 25) := ⟨_, rfl⟩
 have hw0 : Below w.heap.size w W0 := by rw [hW0]; exact ((Below.refl _ _).alloc (Nat.le_refl _) _).alloc (by simp) _
 have hB0 : Blk W0 w.heap.size #[.int .i64 st, .int .i64 start, .slice fa fl fc, av] 25 := by rw [hW0]; exact (Blk.new _ _ _).alloc _
 have hR0 : Blk W0 (w.heap.size + 1) #[.int .i64 0, .int .i64 0, .slice none 0 0, .slice none 0 0] 25 := by
  rw [hW0]; have := Blk.new (w.alloc (.cells #[.int .i64 st, .int .i64 start, .slice fa fl fc, av] 25)) #[.int .i64 0, .int .i64 0, .slice none 0 0, .slice none 0 0] 25
  simpa using this
 have hlt0 := hB0.lt
 have hlt1 := hR0.lt
 have hown0 : arcRow W0 base av l := own_below hown hw0
 have hav : ∀ g, av.ownBlock = some g → g < w.heap.size := fun g e => (hown.lt g e).2
 obtain ⟨aa, ac, rfl, -, -⟩ := RowAt.of_own hown
 have H0 := Lib.hid (And.intro hW0 (And.intro hw0 (And.intro hB0 (And.intro hR0 (And.intro hown0 hav)))))
 have m3 : W0.cell? ⟨w.heap.size, 3, none⟩ = some (.slice aa l.length ac) := hB0.cell 3
 clear hW0 hw0 hB0 hR0 hown0 hav hown
 go_enter Tryz.func24, Tryz.ntmps24
 go_wp2_with fail
 rw [← H0.out.1]
 refine (sort_row l _ base W0 hle H0.out.2.2.2.2.1).mono ?_
 clear m3
 rintro e w1 ⟨rfl, S, hS1, hS2, hS3, hS4, hc1⟩
 have hne : ∀ b, w.heap.size ≤ b → ¬ (Value.slice aa l.length ac).ownBlock = some b := fun b hb e => by have := H0.out.2.2.2.2.2 b e; omega
 have hB1 := H0.out.2.2.1.chg hc1 (hne _ (Nat.le_refl _))
 have hR1 := H0.out.2.2.2.1.chg hc1 (hne _ (by omega))
 have H1 := Lib.hid (And.intro hS1 (And.intro hS2 (And.intro hS3 (And.intro hS4 (And.intro hc1 (And.intro hB1 hR1))))))
 have m3 : w1.cell? ⟨w.heap.size, 3, none⟩ = some (.slice aa l.length ac) := hB1.cell 3
 clear hS1 hS2 hS3 hS4 hc1 hB1 hR1
 go_wp2_with fail
 have hrow := H1.out.2.2.2.1
 refine (compact_row S _ base w1 (by rw [H1.out.1]; exact hle) hrow).mono ?_
 clear m3 hrow
 rintro e w2 ⟨C, a2, c2, hC, rfl, hr2, hap, hc2⟩
 have hB2 := H1.out.2.2.2.2.2.1.chg hc2 (hne _ (Nat.le_refl _))
 have hR2 := H1.out.2.2.2.2.2.2.chg hc2 (hne _ (by omega))
 have m0 : w2.cell? ⟨w.heap.size, 0, none⟩ = some (.int .i64 st) := hB2.cell 0
 have m1 : w2.cell? ⟨w.heap.size, 1, none⟩ = some (.int .i64 start) := hB2.cell 1
 have m2 : w2.cell? ⟨w.heap.size, 2, none⟩ = some (.slice fa fl fc) := hB2.cell 2
 have m3 : w2.cell? ⟨w.heap.size, 3, none⟩ = some (.slice aa l.length ac) := hB2.cell 3
 have f3 := hB2.frozen 3
 have hCl : ArcsOf l C := by rw [hC]; exact compact_of H1.out.2.1 H1.out.2.2.1
 clear hC
 go_upto_region 3 with (fail)
 obtain ⟨W3, hW3⟩ : ∃ W3 : World, W3 = w2.setCell ⟨w.heap.size, 3, none⟩ (.slice a2 C.length c2) := ⟨_, rfl⟩
 rw [← hW3]
 have hB3 : Blk W3 w.heap.size #[.int .i64 st, .int .i64 start, .slice fa fl fc, .slice a2 C.length c2] 25 := by
  rw [hW3]; have := hB2.set_ 3 (.slice a2 C.length c2); simpa using this
 have hR3 : Blk W3 (w.heap.size + 1) #[.int .i64 0, .int .i64 0, .slice none 0 0, .slice none 0 0] 25 := by
  rw [hW3]; exact hR2.far (p := ⟨w.heap.size, 3, none⟩) (by show w.heap.size + 1 ≠ w.heap.size; omega) _
 have hc3 : Chg (fun g => (Value.slice aa l.length ac).ownBlock = some g) w W3 := by
  have h1 := (Chg.of_below (fun g => (Value.slice aa l.length ac).ownBlock = some g) H0.out.2.1).trans (H1.out.2.2.2.2.1.trans hc2)
  refine h1.trans_new (T := fun k => k = w.heap.size) ?_ (fun i hi h => by omega)
  rw [hW3]; exact Chg.setCell (S := fun k => k = w.heap.size) (p := ⟨w.heap.size, 3, none⟩) _ (.inl rfl) _
 have hr3 : RowAt W3 W3.heap.size a2 (flat C) := by
  rw [hW3]
  by_cases h0 : C.length = 0
  ·exact fun h => by rw [flat_length, h0] at h; simp at h
  ·exact (hr2.setC (p := ⟨w.heap.size, 3, none⟩) (fun b o e hb => hne b (Nat.le_of_eq hb.symm) (hap (by omega) b o e)) _).more (by simp)
 have Hap := Lib.hid (fun (h : 0 < C.length) b o (e : a2 = some ⟨b, o, none⟩) => H0.out.2.2.2.2.2 b (hap h b o e))
 have H3 := Lib.hid (And.intro hB3 (And.intro hR3 (And.intro hc3 (And.intro hr3 hCl))))
 have m0 : W3.cell? ⟨w.heap.size, 0, none⟩ = some (.int .i64 st) := hB3.cell 0
 have m1 : W3.cell? ⟨w.heap.size, 1, none⟩ = some (.int .i64 start) := hB3.cell 1
 have m2 : W3.cell? ⟨w.heap.size, 2, none⟩ = some (.slice fa fl fc) := hB3.cell 2
 have m3 : W3.cell? ⟨w.heap.size, 3, none⟩ = some (.slice a2 C.length c2) := hB3.cell 3
 have z0 : W3.cell? ⟨w.heap.size + 1, 0, none⟩ = some (.int .i64 0) := hR3.cell 0
 have z1 : W3.cell? ⟨w.heap.size + 1, 1, none⟩ = some (.int .i64 0) := hR3.cell 1
 have z2 : W3.cell? ⟨w.heap.size + 1, 2, none⟩ = some (.slice none 0 0) := hR3.cell 2
 have z3 : W3.cell? ⟨w.heap.size + 1, 3, none⟩ = some (.slice none 0 0) := hR3.cell 3
 have fz : ∀ j, W3.frozen? ⟨w.heap.size + 1, j, none⟩ = false := fun j => hR3.frozen j
 clear hW3 hB3 hR3 hc3 hr3 hCl hB2 hR2 hr2 hc2 hap
 have hend1 : MadeBig st C → MadePost st start fa fl fc l (.slice aa l.length ac) w (.returned (.tuple #[.agg #[.int .i64 0, .int .i64 0, .slice none 0 0, .slice none 0 0], .int .i64 2])) ((((W3.setCell ⟨w.heap.size + 1, 0, none⟩ (.int .i64 0)).setCell ⟨w.heap.size + 1, 1, none⟩ (.int .i64 0)).setCell ⟨w.heap.size + 1, 2, none⟩ (.slice none 0 0)).setCell ⟨w.heap.size + 1, 3, none⟩ (.slice none 0 0)) := fun hb =>
  ⟨C, H3.out.2.2.2.2, (((H3.out.2.2.1.set_new (p := ⟨w.heap.size + 1, 0, none⟩) (by simp) _).set_new (p := ⟨w.heap.size + 1, 1, none⟩) (by simp) _).set_new (p := ⟨w.heap.size + 1, 2, none⟩) (by simp) _).set_new (p := ⟨w.heap.size + 1, 3, none⟩) (by simp) _, .inl ⟨hb, rfl⟩⟩
 have Hend1 := Lib.hid hend1
 clear hend1
 by_cases h1 : 4000 < st
 ·have d1 : decide (st > 4000) = true := decide_eq_true h1
  have d2 : decide (4000 < st) = true := decide_eq_true h1
  go_wp2_with fail
  refine bodyPost_ret (v := .tuple #[.agg #[.int .i64 0, .int .i64 0, .slice none 0 0, .slice none 0 0], .int .i64 2]) (by simp [results, Tryz.results24, go_sem, z0, z1, z2, z3]) rfl ?_
  exact Hend1.out (.inl h1)
 ·have d1 : decide (st > 4000) = false := decide_eq_false h1
  have d2 : decide (4000 < st) = false := decide_eq_false h1
  by_cases h2 : 20000 < C.length
  ·have d3 : decide ((C.length : Int) > 20000) = true := decide_eq_true (by omega)
   have d4 : decide (20000 < (C.length : Int)) = true := decide_eq_true (by omega)
   go_wp2_with fail
   refine bodyPost_ret (v := .tuple #[.agg #[.int .i64 0, .int .i64 0, .slice none 0 0, .slice none 0 0], .int .i64 2]) (by simp [results, Tryz.results24, go_sem, z0, z1, z2, z3]) rfl ?_
   exact Hend1.out (.inr h2)
  ·have d3 : decide ((C.length : Int) > 20000) = false := decide_eq_false (by omega)
   have d4 : decide (20000 < (C.length : Int)) = false := decide_eq_false (by omega)
   go_wp2_with fail
   refine bodyPost_ret (v := .tuple #[.agg #[.int .i64 st, .int .i64 start, .slice fa fl fc, .slice a2 C.length c2], .int .i64 0]) (by simp [results, Tryz.results24, go_sem, z0, z1, z2, z3]) rfl ?_
   refine ⟨C, H3.out.2.2.2.2, (((H3.out.2.2.1.set_new (p := ⟨w.heap.size + 1, 0, none⟩) (by simp) _).set_new (p := ⟨w.heap.size + 1, 1, none⟩) (by simp) _).set_new (p := ⟨w.heap.size + 1, 2, none⟩) (by simp) _).set_new (p := ⟨w.heap.size + 1, 3, none⟩) (by simp) _,  .inr ⟨by unfold MadeBig; omega, a2, c2, rfl, ?_⟩⟩
   by_cases h0 : C.length = 0
   ·exact fun h => by rw [flat_length, h0] at h; simp at h
   ·have hneS : ∀ bb o, a2 = some ⟨bb, o, none⟩ → bb ≠ w.heap.size + 1 := fun bb o e => by
     have := Hap.out (by omega) bb o e; omega
    exact ((((H3.out.2.2.2.1.setC (p := ⟨w.heap.size + 1, 0, none⟩) hneS _).setC (p := ⟨w.heap.size + 1, 1, none⟩) hneS _).setC (p := ⟨w.heap.size + 1, 2, none⟩) hneS _).setC (p := ⟨w.heap.size + 1, 3, none⟩) hneS _).more (by simp)
end Go.Proofs.YtfihjpffjdnahaaGreatDoor
