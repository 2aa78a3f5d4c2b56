/- Walk: machine.Trim. -/
import Derived.Test.YtfihjpffjdnahaaGreatDoorV1
import Derived.Test.YtfihjpffjdnahaaGreatDoorT1
import Derived.BigRegion
namespace Go.Proofs.YtfihjpffjdnahaaGreatDoor
open Go.RowKit Classical

/-- The same, and the row of final states is new. -/
def TrimPostN (M : Mach) (w : World) (e : Ending) (w' : World) : Prop :=
 ∃ v N err, e = .returned (.tuple #[v, .int .i64 err]) ∧ MachAt w' w'.heap.size v N ∧ Below w.heap.size w w' ∧ (¬ ValidM M → err = 1 ∧ N = ⟨0, 0, [], []⟩) ∧ (ValidM M → err = 0 ∧ N = trimM M) ∧ ∀ x0 x1 p n c r, v = .agg #[x0, x1, .slice (some p) n c, r] → w.heap.size ≤ p.block

def onP (l : List Arc) : List (Int × Int) := l.map (fun a => (a.frm, a.to))
def backP (l : List Arc) : List (Int × Int) := l.map (fun a => (a.to, a.frm))
theorem pairsV_snoc (l : List (Int × Int)) (p : Int × Int) : pairsV (l ++ [p]) = pairsV l ++ [.int .i64 p.1, .int .i64 p.2] := by
 simp [pairsV]
theorem info_pair : (Tryz.prog.info? 65).map (fun i => (i.zero, i.size, i.bytes)) = some (some (.agg #[.int .i64 0, .int .i64 0]), 2, 16) := by kernel_rfl
theorem info_bool : (Tryz.prog.info? 4).map (fun i => (i.zero, i.size, i.bytes)) = some (some (.bool false), 1, 1) := by kernel_rfl
/-- Two rows that do not share a block. -/
def Apart (p q : Value) : Prop := ∀ g, p.ownBlock = some g → q.ownBlock ≠ some g
theorem Apart.symm {p q : Value} (h : Apart p q) : Apart q p := fun g e k => h g k e
theorem Apart.kept {W W' : World} {base : Nat} {e : TypeId} {size n : Nat} {p q : Value} {xs : List Value} (h : Apart p q) (hq : W.ownsRow base e size q n xs) (hg : W.grownBy W' p.ownBlock) : W'.ownsRow base e size q n xs := by
 refine hq.kept hg ?_
 cases hb : q.ownBlock with
 | none => exact .inl rfl
 | some g => exact .inr (fun e => h g e.symm hb)

theorem way_rev {R S : Int → Int → Prop} (h : ∀ a b, R a b → S b a) {a b : Int} (k : Way R a b) : Way S b a := by
 induction k with
 | one h1 => exact .one (h _ _ h1)
 | more _ h1 ih => exact (Way.one (h _ _ h1)).trans ih
theorem way_imp {R S : Int → Int → Prop} (h : ∀ a b, R a b → S a b) {a b : Int} (k : Way R a b) : Way S a b := by
 induction k with
 | one h1 => exact .one (h _ _ h1)
 | more _ h1 ih => exact ih.more (h _ _ h1)
theorem pr_on {M : Mach} {a b : Int} : Pr (onP M.arcs) a b ↔ Ar M a b := by
 unfold Pr onP Ar
 rw [List.mem_map]
 constructor
 ·rintro ⟨x, hx, e⟩; injection e with e1 e2; exact ⟨x, hx, e1, e2⟩
 ·rintro ⟨x, hx, e1, e2⟩; exact ⟨x, hx, by rw [e1, e2]⟩
theorem pr_back {M : Mach} {a b : Int} : Pr (backP M.arcs) a b ↔ Ar M b a := by
 unfold Pr backP Ar
 rw [List.mem_map]
 constructor
 ·rintro ⟨x, hx, e⟩; injection e with e1 e2; exact ⟨x, hx, e2, e1⟩
 ·rintro ⟨x, hx, e1, e2⟩; exact ⟨x, hx, by rw [e1, e2]⟩
theorem mk_none (n u : Nat) : ¬ Mk (List.replicate n false) u := by
 unfold Mk
 rw [List.getElem?_replicate]
 split <;> simp
theorem marks_fwd {M : Mach} {n s0 : Nat} (hs : M.start = (s0 : Int)) (hn : s0 < n) {ys : List Bool} (h : Spread (onP M.arcs) ((List.replicate n false).set s0 true) ys) (u : Nat) : Mk ys u ↔ Fwd M u := by
 rw [h.2 u]
 unfold Fwd
 rw [hs]
 constructor
 ·rintro ⟨s, hm, hw⟩
  rcases (mk_set (by simpa using hn)).1 hm with rfl | hm
  ·rcases hw with e | hw
   ·exact .inl e
   ·exact .inr (way_imp (fun a b h => pr_on.1 h) hw)
  ·exact absurd hm (mk_none n s)
 ·intro hw
  refine ⟨s0, (mk_set (by simpa using hn)).2 (.inl rfl), ?_⟩
  rcases hw with e | hw
  ·exact .inl e
  ·exact .inr (way_imp (fun a b h => pr_on.2 h) hw)
theorem marks_bwd {M : Mach} (hv : ValidM M) {xs ys : List Bool} (hx : ∀ u, Mk xs u ↔ (u : Int) ∈ M.final) (h : Spread (backP M.arcs) xs ys) (u : Nat) : Mk ys u ↔ Bwd M u := by
 rw [h.2 u]
 constructor
 ·rintro ⟨s, hm, hw⟩
  refine ⟨s, (hx s).1 hm, ?_⟩
  rcases hw with e | hw
  ·exact .inl e.symm
  ·exact .inr (way_rev (fun a b h => pr_back.1 h) hw)
 ·rintro ⟨s, hs, hw⟩
  obtain ⟨h0, _⟩ := hv.final s hs
  obtain ⟨m, rfl⟩ : ∃ m : Nat, s = m := ⟨s.toNat, by omega⟩
  refine ⟨m, (hx m).2 hs, ?_⟩
  rcases hw with e | hw
  ·exact .inl e.symm
  ·exact .inr (way_rev (fun a b h => pr_back.2 h) hw)
/-- The row of the states' new numbers, as far as it is filled. -/
noncomputable def numRow (M : Mach) (n k : Nat) : List Int := (List.range n).map (fun j : Nat => if j < k then (if Kept M (j : Int) then (numK M j : Int) else -1) else 0)
theorem numRow_length (M : Mach) (n k : Nat) : (numRow M n k).length = n := by simp [numRow]
theorem numRow_zero (M : Mach) (n : Nat) : numRow M n 0 = List.replicate n 0 := by
 refine List.ext_getElem (by simp [numRow]) (fun i h1 h2 => ?_)
 simp [numRow]
theorem numRow_succ (M : Mach) (n k : Nat) : (numRow M n k).set k (if Kept M (k : Int) then (numK M k : Int) else -1) = numRow M n (k + 1) := by
 refine List.ext_getElem (by simp [numRow]) (fun i h1 h2 => ?_)
 rw [List.getElem_set]
 simp only [numRow, List.getElem_map, List.getElem_range]
 by_cases e : k = i
 ·subst e; simp
 ·rw [if_neg e]
  by_cases h : i < k
  ·have h' : i < k + 1 := by omega
   simp only [h, h', if_true]
  ·have h' : ¬ i < k + 1 := by omega
   simp only [h, h', if_false]
theorem numRow_get (M : Mach) {n : Nat} {s : Int} (h0 : 0 ≤ s) (hn : s < n) : (numRow M n n)[s.toNat]? = some (if Kept M s then numI M s else -1) := by
 have h1 : s.toNat < n := by omega
 rw [List.getElem?_eq_getElem (by rw [numRow_length]; exact h1)]
 simp only [numRow, List.getElem_map, List.getElem_range, if_pos h1, Int.toNat_of_nonneg h0]
 rfl

theorem madeCells_bools (n : Nat) : madeCells #[Value.bool false] n = (bools (List.replicate n false)).toArray := by
 apply Array.ext
 ·simp [madeCells, bools]
 ·intro i h1 h2
  simp [madeCells, Nat.mod_one, bools]
/-- The final states and the arcs that are kept, with their new numbers. -/
noncomputable def finL (M : Mach) (k : Nat) : List Int := ((M.final.take k).filter (fun s => decide (Kept M s))).map (numI M)
noncomputable def arcL (M : Mach) (k : Nat) : List Arc := ((M.arcs.take k).filter (fun a => decide (Kept M a.frm ∧ Kept M a.to))).map (Arc.num M)
theorem finL_yes {M : Mach} {k : Nat} (hk : k < M.final.length) (h : Kept M M.final[k]) : finL M (k + 1) = finL M k ++ [numI M M.final[k]] := by
 unfold finL
 rw [List.take_add_one, List.getElem?_eq_getElem hk, List.filter_append, List.map_append]
 simp [h]
theorem finL_no {M : Mach} {k : Nat} (hk : k < M.final.length) (h : ¬ Kept M M.final[k]) : finL M (k + 1) = finL M k := by
 unfold finL
 rw [List.take_add_one, List.getElem?_eq_getElem hk, List.filter_append, List.map_append]
 simp [h]
theorem arcL_yes {M : Mach} {k : Nat} (hk : k < M.arcs.length) (h : Kept M M.arcs[k].frm ∧ Kept M M.arcs[k].to) : arcL M (k + 1) = arcL M k ++ [M.arcs[k].num M] := by
 unfold arcL
 rw [List.take_add_one, List.getElem?_eq_getElem hk, List.filter_append, List.map_append]
 simp [h]
theorem arcL_no {M : Mach} {k : Nat} (hk : k < M.arcs.length) (h : ¬ (Kept M M.arcs[k].frm ∧ Kept M M.arcs[k].to)) : arcL M (k + 1) = arcL M k := by
 unfold arcL
 rw [List.take_add_one, List.getElem?_eq_getElem hk, List.filter_append, List.map_append]
 simp [h]
theorem finL_len (M : Mach) (k : Nat) : (finL M k).length ≤ M.final.length := by
 unfold finL
 rw [List.length_map]
 refine Nat.le_trans (List.length_filter_le _ _) ?_
 rw [List.length_take]; omega
theorem arcL_len (M : Mach) (k : Nat) : (arcL M k).length ≤ M.arcs.length := by
 unfold arcL
 rw [List.length_map]
 refine Nat.le_trans (List.length_filter_le _ _) ?_
 rw [List.length_take]; omega
theorem two_apps {w1 X W2 W3 W4 : World} {B : Nat} {e : TypeId} {size k : Nat} {p q : Value} {xs ys n1 n2 : List Value} {g g' cap cap' : Nat} (hp : X.ownsRow B e size p k xs) (hq : X.ownsRow B e size q k ys) (hap : Apart p q)
  (hown1 : W2.ownsRow B e size (.slice (some ⟨g, 0, none⟩) (k + 1) cap) (k + 1) (xs ++ n1)) (hgrow : X.grownBy W2 p.ownBlock) (hat : p.ownBlock = some g ∨ g = X.heap.size) (hb : Below W2.heap.size W2 W3)
  (hown2 : W4.ownsRow B e size (.slice (some ⟨g', 0, none⟩) (k + 1) cap') (k + 1) (ys ++ n2)) (hgrow2 : W3.grownBy W4 q.ownBlock) (hat2 : q.ownBlock = some g' ∨ g' = W3.heap.size) (hbX : Below B w1 X) (hB : B ≤ w1.heap.size) :
  W4.ownsRow B e size (.slice (some ⟨g, 0, none⟩) (k + 1) cap) (k + 1) (xs ++ n1) ∧ W4.ownsRow B e size (.slice (some ⟨g', 0, none⟩) (k + 1) cap') (k + 1) (ys ++ n2) ∧ Apart (.slice (some ⟨g, 0, none⟩) (k + 1) cap) (.slice (some ⟨g', 0, none⟩) (k + 1) cap') ∧ Below B w1 W4 := by
 have hap1 : Apart (.slice (some ⟨g, 0, none⟩) (k + 1) cap) q := fun j hj hqj => by
  have e1 : g = j := by injection hj
  subst e1
  rcases hat with h | h
  ·exact hap g h hqj
  ·have := (hq.lt g hqj).2; omega
 have hp3 := own_below hown1 hb
 have hg3 := (hp3.lt g rfl).2
 have hp4 := hap1.symm.kept hp3 hgrow2
 have h1 := hbX.size
 have h2 := hgrow.size
 have h3 := hb.size
 refine ⟨hp4, hown2, fun j hj hqj => ?_, ?_⟩
 ·have e1 : g = j := by injection hj
  have e2 : g' = j := by injection hqj
  subst e1
  subst e2
  rcases hat2 with h | h
  ·exact hap1 _ rfl h
  ·omega
 ·have b2 := hbX.grown hgrow (by omega) (fun j hj => (hp.lt j hj).1)
  have b3 := b2.trans (hb.mono (by omega))
  exact b3.grown hgrow2 (by omega) (fun j hj => (hq.lt j hj).1)

set_option maxRecDepth 100000 in
set_option maxHeartbeats 4000000 in
theorem Trim_new (M : Mach) (v : Value) (w : World) (h : MachAt w w.heap.size v M) :
  Calls Tryz.prog 25 #[v] w (TrimPostN M w) := by
 have hMA := h
 obtain ⟨fa, fc, aa, ac, rfl, hfl, hal, hf, ha⟩ := h
 obtain ⟨W0, hW0⟩ : ∃ W0 : World, W0 = (w.alloc (.cells #[.int .i64 M.states, .int .i64 M.start, .slice fa M.final.length fc, .slice aa M.arcs.length ac] 25)).alloc (.cells #[.int .i64 0, .int .i64 0, .slice none 0 0, .slice none 0 0] 25) := ⟨_, rfl⟩
 have hw0 : Below w.heap.size w W0 := by rw [hW0]; exact ((Below.refl _ _).alloc (Nat.le_refl _) _).alloc (by simp) _
 have hB0 : Blk W0 w.heap.size #[.int .i64 M.states, .int .i64 M.start, .slice fa M.final.length fc, .slice aa M.arcs.length ac] 25 := by rw [hW0]; exact (Blk.new _ _ _).alloc _
 have hR0 : Blk W0 (w.heap.size + 1) #[.int .i64 0, .int .i64 0, .slice none 0 0, .slice none 0 0] 25 := by
  rw [hW0]; have := Blk.new (w.alloc (.cells #[.int .i64 M.states, .int .i64 M.start, .slice fa M.final.length fc, .slice aa M.arcs.length ac] 25)) #[.int .i64 0, .int .i64 0, .slice none 0 0, .slice none 0 0] 25
  simpa using this
 have hlt0 := hB0.lt
 have hlt1 := hR0.lt
 have hsz0 : W0.heap.size = w.heap.size + 2 := by rw [hW0]; simp
 have HM := Lib.hid (fun (wr : World) (hbw : Below W0.heap.size W0 wr) => (show wr.cell? ⟨w.heap.size, 0, none⟩ = some (.int .i64 M.states) ∧ wr.cell? ⟨w.heap.size, 1, none⟩ = some (.int .i64 M.start) ∧ wr.cell? ⟨w.heap.size, 2, none⟩ = some (.slice fa M.final.length fc) ∧ wr.cell? ⟨w.heap.size, 3, none⟩ = some (.slice aa M.arcs.length ac) from
  ⟨(hB0.below hbw hlt0).cell 0, (hB0.below hbw hlt0).cell 1, (hB0.below hbw hlt0).cell 2, (hB0.below hbw hlt0).cell 3⟩))
 have HR := Lib.hid (fun (wr : World) (hbw : Below W0.heap.size W0 wr) => hR0.below hbw hlt1)
 have HA := Lib.hid (fun (wr : World) (hbw : Below W0.heap.size W0 wr) => (show MachAt wr wr.heap.size (.agg #[.int .i64 M.states, .int .i64 M.start, .slice fa M.final.length fc, .slice aa M.arcs.length ac]) M from
  have h1 := hw0.trans (hbw.mono hw0.size); (hMA.below h1 (Nat.le_refl _)).more h1.size))
 have HW0 := Lib.hid (And.intro hW0 (And.intro hw0 hsz0))
 obtain ⟨m0, m1, m2, m3⟩ := HM.out W0 (Below.refl _ _)
 clear hW0 hw0 hB0 hR0 hMA hsz0
 unfold maxLen at hfl hal
 go_enter Tryz.func25, Tryz.ntmps25
 go_wp2_with fail
 rw [← HW0.out.1]
 refine (MValid_any M _ W0 (HA.out W0 (Below.refl _ _))).mono ?_
 rintro e w1 ⟨rfl, hb1⟩
 clear m0 m1 m2 m3
 obtain ⟨m0, m1, m2, m3⟩ := HM.out w1 hb1
 by_cases hv : ValidM M
 case neg =>
  rw [decide_eq_false hv]
  have hr := HR.out w1 hb1
  have z0 : w1.cell? ⟨w.heap.size + 1, 0, none⟩ = some (.int .i64 0) := hr.cell 0
  have z1 : w1.cell? ⟨w.heap.size + 1, 1, none⟩ = some (.int .i64 0) := hr.cell 1
  have z2 : w1.cell? ⟨w.heap.size + 1, 2, none⟩ = some (.slice none 0 0) := hr.cell 2
  have z3 : w1.cell? ⟨w.heap.size + 1, 3, none⟩ = some (.slice none 0 0) := hr.cell 3
  have fz : ∀ j, w1.frozen? ⟨w.heap.size + 1, j, none⟩ = false := fun j => hr.frozen j
  have hbF := HW0.out.2.1.trans (hb1.mono HW0.out.2.1.size)
  have Hv := Lib.hid hv
  clear hv hr
  go_wp2
  refine bodyPost_ret (v := .tuple #[.agg #[.int .i64 0, .int .i64 0, .slice none 0 0, .slice none 0 0], .int .i64 1]) (by simp [results, Tryz.results25, go_sem, z0, z1, z2, z3]) rfl ?_
  have hbs := (((hbF.setCell (p := ⟨w.heap.size + 1, 0, none⟩) (by simp) (.int .i64 0)).setCell (p := ⟨w.heap.size + 1, 1, none⟩) (by simp) (.int .i64 0)).setCell (p := ⟨w.heap.size + 1, 2, none⟩) (by simp) (.slice none 0 0)).setCell (p := ⟨w.heap.size + 1, 3, none⟩) (by simp) (.slice none 0 0)
  exact ⟨_, ⟨0, 0, [], []⟩, 1, rfl, ⟨none, 0, none, 0, rfl, by simp, by simp, fun h => by simp [nums] at h, fun h => by simp [flat] at h⟩, hbs, fun _ => ⟨rfl, rfl⟩, fun h => absurd h Hv.out, fun x0 x1 p nn c r e => by simp at e⟩
 rw [decide_eq_true hv]
 have Hv := Lib.hid hv
 have hfl4 := final_most hv
 have hal4 := hv.arcsLen
 clear hv
 have hw1 := HW0.out.2.1.trans (hb1.mono HW0.out.2.1.size)
 have hsz1 := hb1.size
 obtain ⟨j0, hj, hj0, hj1, hj2⟩ := info_parts info_pair
 go_wp2_with fail
 clear m0 m1 m2 m3
 go_loopw [4, 5, 26] (fun p q i wx => ∃ k : Nat, k ≤ M.arcs.length ∧ i = .int .i64 k ∧ wx.ownsRow w1.heap.size 65 2 p k (pairsV ((onP M.arcs).take k)) ∧ wx.ownsRow w1.heap.size 65 2 q k (pairsV ((backP M.arcs).take k)) ∧ Apart p q ∧ Below w1.heap.size w1 wx) (fun _ _ i _ => M.arcs.length - (intOf i).toNat)
 case atStart => exact ⟨0, Nat.zero_le _, rfl, World.ownsRow_nil _ _ _ _, World.ownsRow_nil _ _ _ _, fun g e => (by cases e), Below.refl _ _⟩
 case round =>
  obtain ⟨k, hk, rfl, hop, hoq, hap, hbr⟩ := hrel
  have hbw := hw1.trans (hbr.mono hw1.size)
  have hszr := hbr.size
  by_cases hka : k < M.arcs.length
  ·obtain ⟨b, off, rfl, hb, hc⟩ := (ha.below hbw (Nat.le_refl _)).arcs (by omega)
   obtain ⟨k0, k1, k2, k3⟩ := hc k hka
   obtain ⟨z, hz⟩ : ∃ z, z = M.arcs[k] := ⟨_, rfl⟩
   rw [← hz] at k0 k1 k2 k3
   have Hz := Lib.hid hz
   obtain ⟨pa, pc, rfl, _, _⟩ := RowAt.of_own hop
   obtain ⟨qa, qc, rfl, _, _⟩ := RowAt.of_own hoq
   clear hz hc
   go_upto_region 7 with (fail)
   obtain ⟨W8, hW8⟩ : ∃ W8 : World, W8 = wr.alloc (.cells #[.int .i64 z.frm, .int .i64 z.inp, .int .i64 z.out, .int .i64 z.to] 40) := ⟨_, rfl⟩
   rw [← hW8]
   have hz8 : Blk W8 wr.heap.size #[.int .i64 z.frm, .int .i64 z.inp, .int .i64 z.out, .int .i64 z.to] 40 := by rw [hW8]; exact Blk.new _ _ _
   have hb8 : Below wr.heap.size wr W8 := by rw [hW8]; exact (Below.refl _ _).alloc (Nat.le_refl _) _
   have z0 : W8.cell? ⟨wr.heap.size, 0, none⟩ = some (.int .i64 z.frm) := hz8.cell 0
   have z3 : W8.cell? ⟨wr.heap.size, 3, none⟩ = some (.int .i64 z.to) := hz8.cell 3
   have H8 := Lib.hid (And.intro (own_below hop hb8) (And.intro (own_below hoq hb8) (And.intro hap (And.intro hz8 (hbr.trans (hb8.mono hszr))))))
   clear hW8 hz8 hb8 hop hoq hap k0 k1 k2 k3
   obtain ⟨XA, hXA⟩ : ∃ XA : World, XA = (W8.alloc (.cells #[.int .i64 z.frm, .int .i64 z.to] 65)).drew := ⟨_, rfl⟩
   obtain ⟨XB, hXB⟩ : ∃ XB : World, XB = ((W8.alloc (.cells #[.int .i64 z.frm, .int .i64 z.to] 65)).alloc (.cells #[.int .i64 z.to, .int .i64 z.frm] 65)).drew := ⟨_, rfl⟩
   obtain ⟨XC, hXC⟩ : ∃ XC : World, XC = ((W8.alloc (.cells #[.int .i64 z.to, .int .i64 z.frm] 65)).alloc (.cells #[.int .i64 z.frm, .int .i64 z.to] 65)).drew := ⟨_, rfl⟩
   have bA : Below W8.heap.size W8 XA := by rw [hXA]; exact ((Below.refl _ _).alloc (Nat.le_refl _) _).drew
   have bB : Below W8.heap.size W8 XB := by rw [hXB]; exact (((Below.refl _ _).alloc (Nat.le_refl _) _).alloc (by simp) _).drew
   have bC : Below W8.heap.size W8 XC := by rw [hXC]; exact (((Below.refl _ _).alloc (Nat.le_refl _) _).alloc (by simp) _).drew
   have kA1 : Blk XA W8.heap.size #[.int .i64 z.frm, .int .i64 z.to] 65 := by rw [hXA]; exact Blk.new _ _ _
   have kB1 : Blk XB W8.heap.size #[.int .i64 z.frm, .int .i64 z.to] 65 := by rw [hXB]; exact (Blk.new W8 _ _).alloc _
   have kB2 : Blk XB (W8.heap.size + 1) #[.int .i64 z.to, .int .i64 z.frm] 65 := by rw [hXB]; have := Blk.new (W8.alloc (.cells #[.int .i64 z.frm, .int .i64 z.to] 65)) #[.int .i64 z.to, .int .i64 z.frm] 65; simp only [World.size_alloc] at this; exact this
   have kC1 : Blk XC (W8.heap.size + 1) #[.int .i64 z.frm, .int .i64 z.to] 65 := by rw [hXC]; have := Blk.new (W8.alloc (.cells #[.int .i64 z.to, .int .i64 z.frm] 65)) #[.int .i64 z.frm, .int .i64 z.to] 65; simp only [World.size_alloc] at this; exact this
   have kC2 : Blk XC W8.heap.size #[.int .i64 z.to, .int .i64 z.frm] 65 := by rw [hXC]; exact (Blk.new W8 _ _).alloc _
   have hpl : ∀ j, (Value.slice pa k pc).ownBlock = some j → j < W8.heap.size := fun j hj => (H8.out.1.lt j hj).2
   have HA := Lib.hid (And.intro (own_below H8.out.1 bA) (And.intro (own_below H8.out.2.1 bA) (And.intro (H8.out.2.2.2.1.below bA H8.out.2.2.2.1.lt) (And.intro (H8.out.2.2.2.2.trans (bA.mono H8.out.2.2.2.2.size)) (And.intro kA1 True.intro)))))
   have HB := Lib.hid (And.intro (own_below H8.out.1 bB) (And.intro (own_below H8.out.2.1 bB) (And.intro (H8.out.2.2.2.1.below bB H8.out.2.2.2.1.lt) (And.intro (H8.out.2.2.2.2.trans (bB.mono H8.out.2.2.2.2.size)) (And.intro kB1 kB2)))))
   have HC := Lib.hid (And.intro (own_below H8.out.1 bC) (And.intro (own_below H8.out.2.1 bC) (And.intro (H8.out.2.2.2.1.below bC H8.out.2.2.2.1.lt) (And.intro (H8.out.2.2.2.2.trans (bC.mono H8.out.2.2.2.2.size)) (And.intro kC1 kC2)))))
   have HoB := Lib.hid (show some (W8.heap.size + 1) ≠ (Value.slice pa k pc).ownBlock from fun e => by have := hpl _ e.symm; omega)
   have HoC := Lib.hid (show some W8.heap.size ≠ (Value.slice pa k pc).ownBlock from fun e => by have := hpl _ e.symm; omega)
   have HXA := Lib.hid hXA
   have HXB := Lib.hid hXB
   have HXC := Lib.hid hXC
   clear hXA hXB hXC bA bB bC kA1 kB1 kB2 kC1 kC2 hpl
   go_region_held3 (fun w' => w'.cell? ⟨wr.heap.size, 0, none⟩ = some (.int .i64 z.frm) ∧ w'.cell? ⟨wr.heap.size, 3, none⟩ = some (.int .i64 z.to))
    (first | exact ⟨z0, z3⟩ | exact ⟨y0, y3⟩ | exact ⟨x0, x3⟩ | go_keep)
    (first
     | (rw [← HXA.out]; (refine step_append_lies _ (by rfl) _ _ _ (by rfl) w1.heap.size 65 j0 (.agg #[.int .i64 0, .int .i64 0]) 2 16 Tryz.underlying61 hj hj0 hj1 hj2 rfl (by decide) (.slice pa k pc) k (pairsV ((onP M.arcs).take k)) (by rfl) (HA.out.1) ⟨W8.heap.size, 0, none⟩ 1 1 [.int .i64 z.frm, .int .i64 z.to] (by rfl) rfl (World.news_of_block (HA.out.2.2.2.2.1)) (by simp [Value.oneCell']) (by decide) (by unfold maxLen; omega) (by omega) (HA.out.2.2.2.1.size) _ rfl ?_; intro g cap wA hownA hgrowA hatA hltA; have hzA := HA.out.2.2.1.grown hgrowA (fun e => HA.out.2.2.1.own_ne HA.out.1 (by decide) e.symm); have y0 := hzA.cell 0; have y3 := hzA.cell 3; have hqA := H8.out.2.2.1.kept HA.out.2.1 hgrowA))
     | (rw [← HXB.out]; (refine step_append_lies _ (by rfl) _ _ _ (by rfl) w1.heap.size 65 j0 (.agg #[.int .i64 0, .int .i64 0]) 2 16 Tryz.underlying61 hj hj0 hj1 hj2 rfl (by decide) (.slice pa k pc) k (pairsV ((onP M.arcs).take k)) (by rfl) (HB.out.1) ⟨W8.heap.size, 0, none⟩ 1 1 [.int .i64 z.frm, .int .i64 z.to] (by rfl) rfl (World.news_of_block (HB.out.2.2.2.2.1)) (by simp [Value.oneCell']) (by decide) (by unfold maxLen; omega) (by omega) (HB.out.2.2.2.1.size) _ rfl ?_; intro g cap wB hownB hgrowB hatB hltB; have hzB := HB.out.2.2.1.grown hgrowB (fun e => HB.out.2.2.1.own_ne HB.out.1 (by decide) e.symm); have y0 := hzB.cell 0; have y3 := hzB.cell 3; have hqB := H8.out.2.2.1.kept HB.out.2.1 hgrowB; have hoB := HB.out.2.2.2.2.2.grown hgrowB (HoB.out)))
     | (rw [← HXC.out]; (refine step_append_lies _ (by rfl) _ _ _ (by rfl) w1.heap.size 65 j0 (.agg #[.int .i64 0, .int .i64 0]) 2 16 Tryz.underlying61 hj hj0 hj1 hj2 rfl (by decide) (.slice pa k pc) k (pairsV ((onP M.arcs).take k)) (by rfl) (HC.out.1) ⟨W8.heap.size + 1, 0, none⟩ 1 1 [.int .i64 z.frm, .int .i64 z.to] (by rfl) rfl (World.news_of_block (HC.out.2.2.2.2.1)) (by simp [Value.oneCell']) (by decide) (by unfold maxLen; omega) (by omega) (HC.out.2.2.2.1.size) _ rfl ?_; intro g cap wC hownC hgrowC hatC hltC; have hzC := HC.out.2.2.1.grown hgrowC (fun e => HC.out.2.2.1.own_ne HC.out.1 (by decide) e.symm); have y0 := hzC.cell 0; have y3 := hzC.cell 3; have hqC := H8.out.2.2.1.kept HC.out.2.1 hgrowC; have hoC := HC.out.2.2.2.2.2.grown hgrowC (HoC.out)))
     | (refine step_append_lies _ (by rfl) _ _ _ (by rfl) w1.heap.size 65 j0 (.agg #[.int .i64 0, .int .i64 0]) 2 16 Tryz.underlying61 hj hj0 hj1 hj2 rfl (by decide) (.slice qa k qc) k (pairsV ((backP M.arcs).take k)) (by rfl) (own_below hqA ((Below.refl _ _).alloc (Nat.le_refl _) (.cells #[.int .i64 z.to, .int .i64 z.frm] 65))) ⟨wA.heap.size, 0, none⟩ 1 1 [.int .i64 z.to, .int .i64 z.frm] (by rfl) rfl (World.news_of_block (Blk.new wA _ _)) (by simp [Value.oneCell']) (by decide) (by unfold maxLen; omega) (by omega) (by have h1 := HA.out.2.2.2.1.size; have h2 := hgrowA.size; simp; omega) _ rfl ?_; intro g' cap' w3 hown2 hgrow2 hat2 hlt2; have HF := Lib.hid (two_apps HA.out.1 HA.out.2.1 H8.out.2.2.1 hownA hgrowA hatA ((Below.refl _ _).alloc (Nat.le_refl _) (.cells #[.int .i64 z.to, .int .i64 z.frm] 65)) hown2 hgrow2 hat2 HA.out.2.2.2.1 (Nat.le_refl _)); have hzF := (hzA.below ((Below.refl _ _).alloc (Nat.le_refl _) (.cells #[.int .i64 z.to, .int .i64 z.frm] 65)) hzA.lt).grown hgrow2 (fun e => (hzA.below ((Below.refl _ _).alloc (Nat.le_refl _) (.cells #[.int .i64 z.to, .int .i64 z.frm] 65)) hzA.lt).own_ne (own_below hqA ((Below.refl _ _).alloc (Nat.le_refl _) (.cells #[.int .i64 z.to, .int .i64 z.frm] 65))) (by decide) e.symm); have x0 := hzF.cell 0; have x3 := hzF.cell 3)
     | (refine step_append_lies _ (by rfl) _ _ _ (by rfl) w1.heap.size 65 j0 (.agg #[.int .i64 0, .int .i64 0]) 2 16 Tryz.underlying61 hj hj0 hj1 hj2 rfl (by decide) (.slice qa k qc) k (pairsV ((backP M.arcs).take k)) (by rfl) (hqB) ⟨W8.heap.size + 1, 0, none⟩ 1 1 [.int .i64 z.to, .int .i64 z.frm] (by rfl) rfl (World.news_of_block (hoB)) (by simp [Value.oneCell']) (by decide) (by unfold maxLen; omega) (by omega) (by have h1 := HB.out.2.2.2.1.size; have h2 := hgrowB.size; omega) _ rfl ?_; intro g' cap' w3 hown2 hgrow2 hat2 hlt2; have HF := Lib.hid (two_apps HB.out.1 HB.out.2.1 H8.out.2.2.1 hownB hgrowB hatB (Below.refl _ _) hown2 hgrow2 hat2 HB.out.2.2.2.1 (Nat.le_refl _)); have hzF := (hzB.below (Below.refl _ _) hzB.lt).grown hgrow2 (fun e => (hzB.below (Below.refl _ _) hzB.lt).own_ne (hqB) (by decide) e.symm); have x0 := hzF.cell 0; have x3 := hzF.cell 3)
     | (refine step_append_lies _ (by rfl) _ _ _ (by rfl) w1.heap.size 65 j0 (.agg #[.int .i64 0, .int .i64 0]) 2 16 Tryz.underlying61 hj hj0 hj1 hj2 rfl (by decide) (.slice qa k qc) k (pairsV ((backP M.arcs).take k)) (by rfl) (hqC) ⟨W8.heap.size, 0, none⟩ 1 1 [.int .i64 z.to, .int .i64 z.frm] (by rfl) rfl (World.news_of_block (hoC)) (by simp [Value.oneCell']) (by decide) (by unfold maxLen; omega) (by omega) (by have h1 := HC.out.2.2.2.1.size; have h2 := hgrowC.size; omega) _ rfl ?_; intro g' cap' w3 hown2 hgrow2 hat2 hlt2; have HF := Lib.hid (two_apps HC.out.1 HC.out.2.1 H8.out.2.2.1 hownC hgrowC hatC (Below.refl _ _) hown2 hgrow2 hat2 HC.out.2.2.2.1 (Nat.le_refl _)); have hzF := (hzC.below (Below.refl _ _) hzC.lt).grown hgrow2 (fun e => (hzC.below (Below.refl _ _) hzC.lt).own_ne (hqC) (by decide) e.symm); have x0 := hzF.cell 0; have x3 := hzF.cell 3)
     | fail)
   all_goals (
    have e1 : pairsV ((onP M.arcs).take k) ++ [.int .i64 z.frm, .int .i64 z.to] = pairsV ((onP M.arcs).take (k + 1)) := by
     rw [List.take_add_one, onP, List.getElem?_map, List.getElem?_eq_getElem hka, ← Hz.out]
     exact (pairsV_snoc _ (z.frm, z.to)).symm
    have e2 : pairsV ((backP M.arcs).take k) ++ [.int .i64 z.to, .int .i64 z.frm] = pairsV ((backP M.arcs).take (k + 1)) := by
     rw [List.take_add_one, backP, List.getElem?_map, List.getElem?_eq_getElem hka, ← Hz.out]
     exact (pairsV_snoc _ (z.to, z.frm)).symm
    have hf := HF.out
    rw [e1, e2] at hf
    have HG := Lib.hid hf
    clear hf e1 e2 hzF x0 x3 y0 y3 hown2 hgrow2 hat2
    go_wp2_with fail
    exact ⟨⟨k + 1, by omega, by go_num, HG.out.1, HG.out.2.1, HG.out.2.2.1, HG.out.2.2.2⟩, by simp [intOf]; omega⟩)
  ·obtain rfl : k = M.arcs.length := by omega
   obtain ⟨wL, rfl⟩ : ∃ wL : World, wL = wr := ⟨_, rfl⟩
   obtain ⟨n, hn⟩ : ∃ n : Nat, M.states = n := ⟨M.states.toNat, by have := Hv.out.one; omega⟩
   have hn4 : n ≤ 4000 := by have := Hv.out.most; omega
   obtain ⟨s0, hs0⟩ : ∃ s0 : Nat, M.start = s0 := ⟨M.start.toNat, by have := Hv.out.start.1; omega⟩
   have hs0n : s0 < n := by have := Hv.out.start.2; omega
   obtain ⟨pa, pc, rfl, _, _⟩ := RowAt.of_own hop
   obtain ⟨qa, qc, rfl, _, _⟩ := RowAt.of_own hoq
   have hopL : wL.ownsRow w1.heap.size 65 2 (.slice pa M.arcs.length pc) M.arcs.length (pairsV (onP M.arcs)) := by
    rw [List.take_of_length_le (by simp [onP])] at hop; exact hop
   have hoqL : wL.ownsRow w1.heap.size 65 2 (.slice qa M.arcs.length qc) M.arcs.length (pairsV (backP M.arcs)) := by
    rw [List.take_of_length_le (by simp [backP])] at hoq; exact hoq
   obtain ⟨ib, hib, hib0, hib1, hib2⟩ := info_parts info_bool
   have hmk := fun W => run_mkrow (P := Tryz.prog) 85 4 ib (.bool false) Tryz.underlying85 hib hib0 .i64 .i64 n n (Nat.le_refl _) (by rw [hib2]; omega) (by omega) W
   rw [hib1] at hmk
   obtain ⟨m0, m1, m2, m3⟩ := HM.out wL (hb1.trans (hbr.mono hb1.size))
   have hm0 := World.new_ne wL ⟨w.heap.size, 0, none⟩ m0
   have HO := Lib.hid (And.intro hopL (And.intro hoqL hap))
   have kz0 : Blk ((wL.alloc (.cells (madeCells #[Value.bool false] n) 4)).alloc (.cells (madeCells #[Value.bool false] n) 4)).drew wL.heap.size (bools (List.replicate n false)).toArray 4 := by
    rw [madeCells_bools]; exact (Blk.new wL _ _).alloc _
   have kz1 : Blk ((wL.alloc (.cells (madeCells #[Value.bool false] n) 4)).alloc (.cells (madeCells #[Value.bool false] n) 4)).drew (wL.heap.size + 1) (bools (List.replicate n false)).toArray 4 := by
    rw [madeCells_bools]
    have := Blk.new (wL.alloc (.cells (bools (List.replicate n false)).toArray 4)) (bools (List.replicate n false)).toArray 4
    simp only [World.size_alloc] at this; exact this
   have kz2 : Below wL.heap.size wL ((wL.alloc (.cells (madeCells #[Value.bool false] n) 4)).alloc (.cells (madeCells #[Value.bool false] n) 4)).drew := (((Below.refl _ _).alloc (Nat.le_refl _) _).alloc (by simp) _).drew
   have HZ := Lib.hid (And.intro kz0 (And.intro kz1 kz2))
   clear kz0 kz1 kz2
   have Hn := Lib.hid (And.intro hn hs0)
   clear hop hoq hopL hoqL hap
   rw [hn] at m0
   clear hn hs0
   go_upto_region 9 with (fail)
   go_cut [8, 9] (fun a b wx => ∃ f t : Nat, a = .slice (some ⟨f, 0, none⟩) n n ∧ b = .slice (some ⟨t, 0, none⟩) n n ∧ f ≠ t ∧ wL.heap.size ≤ f ∧ wL.heap.size ≤ t ∧ Blk wx f (bools (List.replicate n false)).toArray 4 ∧ Blk wx t (bools (List.replicate n false)).toArray 4 ∧ Below wL.heap.size wL wx)
   case first =>
    go_region_held3 (fun w' => w'.cell? ⟨w.heap.size, 0, none⟩ = some (.int .i64 n)) (first | exact m0 | go_keep) (first | fail)
    all_goals go_wp2_with fail
    all_goals go_meet
    ·exact ⟨wL.heap.size, wL.heap.size + 1, rfl, rfl, by omega, Nat.le_refl _, by omega, HZ.out.1, HZ.out.2.1, HZ.out.2.2⟩
    ·exact ⟨wL.heap.size + 1, wL.heap.size, rfl, rfl, by omega, by omega, Nat.le_refl _, HZ.out.2.1, HZ.out.1, HZ.out.2.2⟩
   case rest =>
    obtain ⟨f, t, rfl, rfl, hft, hf1, ht1, hbf, hbt, hbw3⟩ := hcut
    have hb13 := hbr.trans (hbw3.mono hszr)
    clear hm0 m0 m1 m2 m3 hmk
    obtain ⟨m0, m1, m2, m3⟩ := HM.out _ (hb1.trans (hb13.mono hb1.size))
    rw [Hn.out.2] at m1
    rw [Hn.out.1] at m0
    have tf := hbf.frozen s0
    have tc := hbf.cell s0
    have etc : (bools (List.replicate n false)).toArray[s0]? = some (.bool false) := by simp [bools, hs0n]
    rw [etc] at tc
    clear etc
    have Hp3 := Lib.hid (And.intro hbf (And.intro hbt hb13))
    clear hbf hbt
    obtain ⟨W4, hW4⟩ : ∃ W4 : World, W4 = wc.setCell ⟨f, s0, none⟩ (.bool true) := ⟨_, rfl⟩
    have kf4 : Blk W4 f (bools ((List.replicate n false).set s0 true)).toArray 4 := by rw [hW4, ← bools_set]; exact Hp3.out.1.set_ s0 _
    have kt4 : Blk W4 t (bools (List.replicate n false)).toArray 4 := by rw [hW4]; exact Hp3.out.2.1.far (p := ⟨f, s0, none⟩) (by show t ≠ f; omega) _
    have hb14 : Below w1.heap.size w1 W4 := by rw [hW4]; exact hb13.setCell (p := ⟨f, s0, none⟩) (by show w1.heap.size ≤ f; omega) _
    have hc34 : Below wL.heap.size wL W4 := by rw [hW4]; exact hbw3.setCell (p := ⟨f, s0, none⟩) hf1 _
    have H4 := Lib.hid (And.intro kf4 (And.intro kt4 (And.intro hb14 hc34)))
    have HW4 := Lib.hid hW4
    clear kf4 kt4 hb14 hc34 hW4 hbw3 hb13
    go_upto_region 11 with (fail)
    rw [← HW4.out]
    clear m0 m1 m2 m3 tf tc
    obtain ⟨m0, m1, m2, m3⟩ := HM.out W4 (hb1.trans (H4.out.2.2.1.mono hb1.size))
    go_wp2_with fail
    clear m0 m1 m2 m3
    go_loopw [60] (fun i wx => ∃ (k : Nat) (ys : List Bool), k ≤ M.final.length ∧ i = .int .i64 k ∧ ys.length = n ∧ (∀ u : Nat, Mk ys u ↔ (u : Int) ∈ M.final.take k) ∧ Blk wx t (bools ys).toArray 4 ∧ Chg (fun j => j = t) W4 wx) (fun i _ => M.final.length - (intOf i).toNat)
    case atStart => exact ⟨0, List.replicate n false, Nat.zero_le _, rfl, by simp, fun u => by simp [mk_none], H4.out.2.1, Chg.refl _ _⟩
    case round =>
     obtain ⟨k, ys, hk, rfl, hyl, hys, hbt, hc⟩ := hrel
     have hb1r := H4.out.2.2.1.trans (hc.below (B := w1.heap.size) (fun j hj => by omega) H4.out.2.2.1.size)
     have hbwr := hw1.trans (hb1r.mono hw1.size)
     have HY := Lib.hid (And.intro hys (And.intro hbt (And.intro hc hb1r)))
     by_cases hkf : k < M.final.length
     ·obtain ⟨b, off, rfl, hb, hcf⟩ := (hf.below hbwr (Nat.le_refl _)).nums (by omega)
      have x0 := hcf k hkf
      obtain ⟨z, hz⟩ : ∃ z : Nat, M.final[k] = z := ⟨(M.final[k]).toNat, by have := (Hv.out.final _ (List.getElem_mem hkf)).1; omega⟩
      have hzn : z < n := by have := (Hv.out.final _ (List.getElem_mem hkf)).2; rw [Hn.out.1, hz] at this; omega
      rw [hz] at x0
      have Hz := Lib.hid hz
      have tc := hbt.cell z
      have tf := hbt.frozen z
      have etc : (bools ys).toArray[z]? = some (.bool ys[z]) := by simp [bools, hyl, hzn]
      rw [etc] at tc
      clear etc hz hys hbt hcf
      go_wp2_with fail
      refine ⟨⟨k + 1, ys.set z true, by omega, by go_num, by simpa using hyl, fun u => ?_, by rw [← bools_set]; exact HY.out.2.1.set_ z _, HY.out.2.2.1.trans (Chg.setCell (S := fun j => j = t) (p := ⟨t, z, none⟩) _ (.inl rfl) _)⟩, by simp [intOf]; omega⟩
      rw [mk_set (by omega), List.take_add_one, List.getElem?_eq_getElem hkf, Hz.out, HY.out.1 u]
      constructor
      ·rintro (rfl | h)
       ·exact List.mem_append.2 (.inr (by simp))
       ·exact List.mem_append.2 (.inl h)
      ·intro h
       rcases List.mem_append.1 h with h | h
       ·exact .inr h
       ·exact .inl (by simp at h; omega)
     ·obtain rfl : k = M.final.length := by omega
      have hys' : ∀ u : Nat, Mk ys u ↔ (u : Int) ∈ M.final := fun u => by rw [HY.out.1 u, List.take_length]
      have Hys := Lib.hid hys'
      clear hys hys' hbt
      obtain ⟨wM, rfl⟩ : ∃ wM : World, wM = wr := ⟨_, rfl⟩
      have hLM : Below wL.heap.size wL wM := H4.out.2.2.2.trans (hc.below (B := wL.heap.size) (fun j hj => by omega) H4.out.2.2.2.size)
      have hon := own_below HO.out.1 hLM
      have hoq := own_below HO.out.2.1 hLM
      obtain ⟨_, _, e1, _, hrp⟩ := RowAt.of_own hon
      injection e1 with e1 _ e1c
      subst e1 e1c
      obtain ⟨_, _, e2, _, hrq⟩ := RowAt.of_own hoq
      injection e2 with e2 _ e2c
      subst e2 e2c
      have hpl : ∀ p, pa = some p → p.block < wL.heap.size := fun p hp => (HO.out.1.lt p.block (by rw [hp]; rfl)).2
      have hql : ∀ p, qa = some p → p.block < wL.heap.size := fun p hp => (HO.out.2.1.lt p.block (by rw [hp]; rfl)).2
      have hkf := H4.out.1.chg hc hft
      have hon' : ∀ p ∈ onP M.arcs, (0 ≤ p.1 ∧ p.1 < (n : Int)) ∧ (0 ≤ p.2 ∧ p.2 < (n : Int)) := fun p hp => by
       obtain ⟨a, ha', rfl⟩ := List.mem_map.1 hp
       obtain ⟨q1, q2, _⟩ := Hv.out.arcs a ha'
       rw [Hn.out.1] at q1 q2
       exact ⟨q1, q2⟩
      have hba' : ∀ p ∈ backP M.arcs, (0 ≤ p.1 ∧ p.1 < (n : Int)) ∧ (0 ≤ p.2 ∧ p.2 < (n : Int)) := fun p hp => by
       obtain ⟨a, ha', rfl⟩ := List.mem_map.1 hp
       obtain ⟨q1, q2, _⟩ := Hv.out.arcs a ha'
       rw [Hn.out.1] at q1 q2
       exact ⟨q2, q1⟩
      have hQ1 := spread_any (onP M.arcs) n hn4 hon' (by simp [onP]; omega) ((List.replicate n false).set s0 true) (by simp) f pa pc wM hkf hrp (fun _ p hp => by have := hpl p hp; omega)
      have hlo : (onP M.arcs).length = M.arcs.length := by simp [onP]
      have hlb : (backP M.arcs).length = M.arcs.length := by simp [backP]
      rw [hlo] at hQ1
      have HQ1 := Lib.hid hQ1
      have hMtl := HY.out.2.1.lt
      have HM' := Lib.hid (And.intro hrq (And.intro hql (And.intro hba' hlb)))
      clear hon hoq hrp hrq hpl hql hon' hba' hQ1 hlo hlb hkf hc
      go_upto_region 17 with (go_at_call 47; refine HQ1.out.mono ?_; rintro e wN ⟨rfl, xf, hxf, hkf, hcf⟩)
      have hktN := HY.out.2.1.chg hcf (fun e => hft e.symm)
      have hrqN := HM'.out.1.chg hcf (Nat.le_refl _) (fun _ p hp e => by have := HM'.out.2.1 p hp; omega)
      have hQ2 := spread_any (backP M.arcs) n hn4 HM'.out.2.2.1 (by rw [HM'.out.2.2.2]; omega) ys hyl t qa qc wN hktN (hrqN.more hcf.size) (fun _ p hp => by have := HM'.out.2.1 p hp; omega)
      rw [HM'.out.2.2.2] at hQ2
      have HQ2 := Lib.hid hQ2
      have HF := Lib.hid (And.intro (fun u => marks_fwd Hn.out.2 hs0n hxf u) (And.intro hkf hcf))
      have hxfl : xf.length = n := by rw [hxf.1]; simp
      clear hxf hkf hQ2 hktN hrqN
      go_upto_region 18 with (go_at_call 47; refine HQ2.out.mono ?_; rintro e wO ⟨rfl, xt, hxt, hkt, hct⟩)
      have hMO : Below w1.heap.size w1 wO := by
       have h1 := HF.out.2.2.below (B := w1.heap.size) (fun j hj => by omega) HY.out.2.2.2.size
       have h2 := hct.below (B := w1.heap.size) (fun j hj => by omega) (Nat.le_trans HY.out.2.2.2.size hcf.size)
       exact (HY.out.2.2.2.trans h1).trans h2
      have hkfO := HF.out.2.1.chg hct hft
      have hbwd := fun u => marks_bwd Hv.out Hys.out hxt u
      have hxtl : xt.length = n := by rw [hxt.1]; exact hyl
      have HO3 := Lib.hid (And.intro hkfO (And.intro hkt (And.intro hbwd hMO)))
      obtain ⟨ii, hii, hii0, hii1, hii2⟩ := info_parts info_int
      have hmki := fun W => run_mkrow (P := Tryz.prog) 22 3 ii (.int .i64 0) Tryz.underlying22 hii hii0 .i64 .i64 n n (Nat.le_refl _) (by rw [hii2]; omega) (by omega) W
      rw [hii1] at hmki
      clear hkfO hkt hbwd hMO hxt hct hcf
      go_upto_region 19 with (fail)
      obtain ⟨W5, hW5⟩ : ∃ W5 : World, W5 = wO.alloc (.cells #[.int .i64 0, .int .i64 0, .slice none 0 0, .slice none 0 0] 25) := ⟨_, rfl⟩
      rw [← hW5]
      obtain ⟨bo, hbo⟩ : ∃ b, wO.heap.size = b := ⟨_, rfl⟩
      have hO5 : Below wO.heap.size wO W5 := by rw [hW5]; exact (Below.refl _ _).alloc (Nat.le_refl _) _
      have kbo5 : Blk W5 bo #[.int .i64 0, .int .i64 0, .slice none 0 0, .slice none 0 0] 25 := by rw [hW5, ← hbo]; exact Blk.new _ _ _
      have hs5 : W5.heap.size = bo + 1 := by rw [hW5, ← hbo]; simp
      have h15 : Below w1.heap.size w1 W5 := HO3.out.2.2.2.trans (hO5.mono HO3.out.2.2.2.size)
      obtain ⟨m0, m1, m2, m3⟩ := HM.out W5 (hb1.trans (h15.mono hb1.size))
      rw [Hn.out.1] at m0
      rw [hbo]
      have hob : w1.heap.size ≤ bo := by have := HO3.out.2.2.2.size; omega
      clear hW5
      go_upto_region 20 with (fail)
      clear hmki m0 m1 m2 m3
      generalize hWP : (W5.alloc _) = wP
      have h5P : Below W5.heap.size W5 wP := by rw [← hWP]; exact (Below.refl _ _).alloc (Nat.le_refl _) _
      have kbo := kbo5.below h5P kbo5.lt
      have kbn : Blk wP (bo + 1) (nums (List.replicate n 0)).toArray 3 := by
       rw [← hWP, ← hs5, ← madeCells_ints]
       exact Blk.new _ _ _
      have hOP : Below wO.heap.size wO wP := hO5.trans (h5P.mono hO5.size)
      have hsP : wP.heap.size = bo + 2 := by rw [← hWP]; simp [hs5]
      rw [hbo] at hOP
      have hfo : f < bo := by have := HO3.out.1.lt; omega
      have hto : t < bo := by have := HO3.out.2.1.lt; omega
      have hMP : Below w1.heap.size w1 wP := HO3.out.2.2.2.trans (hOP.mono (by have := HO3.out.2.2.2.size; omega))
      have HP := Lib.hid (And.intro kbo (And.intro kbn (And.intro (HO3.out.1.below hOP hfo) (And.intro (HO3.out.2.1.below hOP hto) hMP))))
      clear hWP hbo kbo kbn hOP hMP hO5 kbo5 h15 h5P
      obtain ⟨m0, m1, m2, m3⟩ := HM.out wP (hb1.trans (HP.out.2.2.2.2.mono hb1.size))
      rw [Hn.out.1] at m0
      go_wp2_with fail
      clear m0 m1 m2 m3
      go_loopw [79] (fun i wx => ∃ k : Nat, k ≤ n ∧ i = .int .i64 k ∧ Blk wx (bo + 1) (nums (numRow M n k)).toArray 3 ∧ Blk wx bo #[.int .i64 (numK M k : Nat), .int .i64 0, .slice none 0 0, .slice none 0 0] 25 ∧ Chg (fun j => j = bo ∨ j = bo + 1) wP wx) (fun i _ => n - (intOf i).toNat)
      case atStart => exact ⟨0, Nat.zero_le _, rfl, by rw [numRow_zero]; exact HP.out.2.1, HP.out.1, Chg.refl _ _⟩
      case round =>
       obtain ⟨k, hk, rfl, hbn, hbo, hc⟩ := hrel
       have hMr : Below w1.heap.size w1 wr := HP.out.2.2.2.2.trans (hc.below (B := w1.heap.size) (fun j hj => by omega) HP.out.2.2.2.2.size)
       by_cases hkn : k < n
       ·have hkle := numK_le M k
        have hwrap : IntKind.i64.wrap ((numK M k : Nat) + 1 : Int) = (numK M k : Nat) + 1 := IntWalk.i64_in _ (by omega)
        obtain ⟨m0, m1, m2, m3⟩ := HM.out wr (hb1.trans (hMr.mono hb1.size))
        rw [Hn.out.2] at m1
        have xfc := (HP.out.2.2.1.chg hc (by omega)).cell k
        have xtc := (HP.out.2.2.2.1.chg hc (by omega)).cell k
        have exf : (bools xf).toArray[k]? = some (.bool xf[k]) := by simp [bools, hxfl, hkn]
        have ext : (bools xt).toArray[k]? = some (.bool xt[k]) := by simp [bools, hxtl, hkn]
        rw [exf] at xfc
        rw [ext] at xtc
        have nc := hbn.cell k
        have nf := hbn.frozen k
        have enc : (nums (numRow M n k)).toArray[k]? = some (.int .i64 ((numRow M n k)[k]'(by rw [numRow_length]; exact hkn))) := by simp [nums, numRow_length, hkn]
        rw [enc] at nc
        have oc : wr.cell? ⟨bo, 0, none⟩ = some (.int .i64 (numK M k : Nat)) := hbo.cell 0
        have of0 := hbo.frozen 0
        have hset : ∀ c, (nums (numRow M n k)).toArray.setIfInBounds k (.int .i64 c) = (nums ((numRow M n k).set k c)).toArray := fun c => by simp [nums, List.map_set]
        have hN : ¬ Kept M (k : Int) → Blk (wr.setCell ⟨bo + 1, k, none⟩ (.int .i64 (-1))) (bo + 1) (nums (numRow M n (k + 1))).toArray 3 ∧ Blk (wr.setCell ⟨bo + 1, k, none⟩ (.int .i64 (-1))) bo #[.int .i64 (numK M (k + 1) : Nat), .int .i64 0, .slice none 0 0, .slice none 0 0] 25 ∧ Chg (fun j => j = bo ∨ j = bo + 1) wP (wr.setCell ⟨bo + 1, k, none⟩ (.int .i64 (-1))) := fun hno => by
         refine ⟨?_, ?_, hc.trans (Chg.setCell (S := fun j => j = bo ∨ j = bo + 1) (p := ⟨bo + 1, k, none⟩) _ (.inl (.inr rfl)) _)⟩
         ·have := hbn.set_ k (.int .i64 (-1))
          rw [hset] at this
          rw [← numRow_succ, if_neg hno]; exact this
         ·rw [numK_succ, if_neg hno]
          exact hbo.far (p := ⟨bo + 1, k, none⟩) (by show bo ≠ bo + 1; omega) _
        have hY : Kept M (k : Int) → Blk (((wr.setCell ⟨bo + 1, k, none⟩ (.int .i64 (-1))).setCell ⟨bo + 1, k, none⟩ (.int .i64 (numK M k : Nat))).setCell ⟨bo, 0, none⟩ (.int .i64 ((numK M k : Nat) + 1))) (bo + 1) (nums (numRow M n (k + 1))).toArray 3 ∧ Blk (((wr.setCell ⟨bo + 1, k, none⟩ (.int .i64 (-1))).setCell ⟨bo + 1, k, none⟩ (.int .i64 (numK M k : Nat))).setCell ⟨bo, 0, none⟩ (.int .i64 ((numK M k : Nat) + 1))) bo #[.int .i64 (numK M (k + 1) : Nat), .int .i64 0, .slice none 0 0, .slice none 0 0] 25 ∧ Chg (fun j => j = bo ∨ j = bo + 1) wP (((wr.setCell ⟨bo + 1, k, none⟩ (.int .i64 (-1))).setCell ⟨bo + 1, k, none⟩ (.int .i64 (numK M k : Nat))).setCell ⟨bo, 0, none⟩ (.int .i64 ((numK M k : Nat) + 1))) := fun hyes => by
         have c1 := hc.trans (Chg.setCell (S := fun j => j = bo ∨ j = bo + 1) (p := ⟨bo + 1, k, none⟩) wr (.inl (.inr rfl)) (.int .i64 (-1)))
         have c2 := c1.trans (Chg.setCell (S := fun j => j = bo ∨ j = bo + 1) (p := ⟨bo + 1, k, none⟩) _ (.inl (.inr rfl)) (.int .i64 (numK M k : Nat)))
         refine ⟨?_, ?_, c2.trans (Chg.setCell (S := fun j => j = bo ∨ j = bo + 1) (p := ⟨bo, 0, none⟩) _ (.inl (.inl rfl)) _)⟩
         ·have := (hbn.set_ k (.int .i64 (-1))).set_ k (.int .i64 (numK M k : Nat))
          rw [Array.setIfInBounds_setIfInBounds, hset] at this
          rw [← numRow_succ, if_pos hyes]; exact this.far (p := ⟨bo, 0, none⟩) (by show bo + 1 ≠ bo; omega) _
         ·have := ((hbo.far (p := ⟨bo + 1, k, none⟩) (by show bo ≠ bo + 1; omega) (.int .i64 (-1))).far (p := ⟨bo + 1, k, none⟩) (by show bo ≠ bo + 1; omega) (.int .i64 (numK M k : Nat))).set_ 0 (.int .i64 ((numK M k : Nat) + 1))
          rw [numK_succ, if_pos hyes]
          simpa using this
        have HNY := Lib.hid (And.intro hN hY)
        have hkx : Kept M (k : Int) ↔ k = s0 ∨ (xf[k] = true ∧ xt[k] = true) := by
         have e1 : Mk xf k ↔ xf[k] = true := by unfold Mk; rw [List.getElem?_eq_getElem (by omega)]; simp
         have e2 : Mk xt k ↔ xt[k] = true := by unfold Mk; rw [List.getElem?_eq_getElem (by omega)]; simp
         rw [← e1, ← e2, HF.out.1 k, HO3.out.2.2.1 k]
         unfold Kept
         rw [Hn.out.2, Int.natCast_inj]
        have Hkx := Lib.hid hkx
        clear hN hY hset hkx exf ext enc hbn hbo
        by_cases hks : k = s0
        ·have d1 : ((k : Int) == (s0 : Int)) = true := by simp [hks]
         have Hy := Lib.hid (HNY.out.2 (Hkx.out.2 (.inl hks)))
         clear hks
         go_wp2_with fail
         exact ⟨⟨k + 1, by omega, by go_num, Hy.out.1, Hy.out.2.1, Hy.out.2.2⟩, by simp [intOf]; omega⟩
        ·have d1 : ((k : Int) == (s0 : Int)) = false := by simp; omega
         cases hxk : xf[k] with
         | false =>
          rw [hxk] at xfc
          have Hno := Lib.hid (HNY.out.1 (fun h => by rcases Hkx.out.1 h with e | ⟨e, _⟩; exact hks e; rw [hxk] at e; cases e))
          clear hxk hks
          go_wp2_with fail
          exact ⟨⟨k + 1, by omega, by go_num, Hno.out.1, Hno.out.2.1, Hno.out.2.2⟩, by simp [intOf]; omega⟩
         | true =>
          rw [hxk] at xfc
          cases hxk2 : xt[k] with
          | false =>
           rw [hxk2] at xtc
           have Hno := Lib.hid (HNY.out.1 (fun h => by rcases Hkx.out.1 h with e | ⟨_, e⟩; exact hks e; rw [hxk2] at e; cases e))
           clear hxk hxk2 hks
           go_wp2_with fail
           exact ⟨⟨k + 1, by omega, by go_num, Hno.out.1, Hno.out.2.1, Hno.out.2.2⟩, by simp [intOf]; omega⟩
          | true =>
           rw [hxk2] at xtc
           have Hy := Lib.hid (HNY.out.2 (Hkx.out.2 (.inr ⟨hxk, hxk2⟩)))
           clear hxk hxk2 hks
           go_wp2_with fail
           exact ⟨⟨k + 1, by omega, by go_num, Hy.out.1, Hy.out.2.1, Hy.out.2.2⟩, by simp [intOf]; omega⟩
       ·obtain rfl : k = n := by omega
        obtain ⟨wQ, rfl⟩ : ∃ wQ : World, wQ = wr := ⟨_, rfl⟩
        have ns := hbn.cell s0
        have ens : (nums (numRow M k k)).toArray[s0]? = some (.int .i64 (numI M M.start)) := by
         have := numRow_get M (n := k) (s := M.start) (by rw [Hn.out.2]; omega) (by rw [Hn.out.2]; omega)
         rw [if_pos (show Kept M M.start from .inl rfl), Hn.out.2, Int.toNat_natCast] at this
         rw [Hn.out.2]
         simp [nums, this]
        rw [ens] at ns
        have oc1 : wQ.cell? ⟨bo, 1, none⟩ = some (.int .i64 0) := hbo.cell 1
        have of1 := hbo.frozen 1
        obtain ⟨m0, m1, m2, m3⟩ := HM.out wQ (hb1.trans (hMr.mono hb1.size))
        rw [Hn.out.2] at m1
        obtain ⟨W6, hW6⟩ : ∃ W6 : World, W6 = wQ.setCell ⟨bo, 1, none⟩ (.int .i64 (numI M M.start)) := ⟨_, rfl⟩
        have k6 : Blk W6 bo #[.int .i64 (numK M k : Nat), .int .i64 (numI M M.start), .slice none 0 0, .slice none 0 0] 25 := by
         rw [hW6]; have := hbo.set_ 1 (.int .i64 (numI M M.start)); simpa using this
        have kn6 : Blk W6 (bo + 1) (nums (numRow M k k)).toArray 3 := by rw [hW6]; exact hbn.far (p := ⟨bo, 1, none⟩) (by show bo + 1 ≠ bo; omega) _
        have h16 : Below w1.heap.size w1 W6 := by rw [hW6]; exact hMr.setCell (p := ⟨bo, 1, none⟩) hob _
        have HW6 := Lib.hid hW6
        have H6 := Lib.hid (And.intro k6 (And.intro kn6 h16))
        have hbo6 : bo + 1 < W6.heap.size := kn6.lt
        clear hW6 k6 kn6 h16 hbn hbo ens
        go_upto_region 29 with (fail)
        rw [← HW6.out]
        clear m0 m1 m2 m3 ns oc1 of1
        obtain ⟨m0, m1, m2, m3⟩ := HM.out W6 (hb1.trans (H6.out.2.2.mono hb1.size))
        go_wp2_with fail
        clear m0 m1 m2 m3
        go_loopw [120] (fun i wx => ∃ (j : Nat) (fv : Value), j ≤ M.final.length ∧ i = .int .i64 j ∧ wx.ownsRow (bo + 2) 3 1 fv (finL M j).length (nums (finL M j)) ∧ Blk wx bo #[.int .i64 (numK M k : Nat), .int .i64 (numI M M.start), fv, .slice none 0 0] 25 ∧ Blk wx (bo + 1) (nums (numRow M k k)).toArray 3 ∧ Below w1.heap.size w1 wx) (fun i _ => M.final.length - (intOf i).toNat)
        case atStart => exact ⟨0, _, Nat.zero_le _, rfl, World.ownsRow_nil _ _ _ _, H6.out.1, H6.out.2.1, H6.out.2.2⟩
        case round =>
         obtain ⟨j, fv, hj, rfl, hfo', hbo, hbn, hbr4⟩ := hrel
         have hszr4 := hbr4.size
         have hbwr := hw1.trans (hbr4.mono hw1.size)
         have hfll := finL_len M j
         by_cases hjf : j < M.final.length
         ·obtain ⟨b, off, rfl, hb, hcf⟩ := (hf.below hbwr (Nat.le_refl _)).nums (by omega)
          have x0 := hcf j hjf
          obtain ⟨z, hz⟩ : ∃ z : Nat, M.final[j] = z := ⟨(M.final[j]).toNat, by have := (Hv.out.final _ (List.getElem_mem hjf)).1; omega⟩
          have hzn : z < k := by have := (Hv.out.final _ (List.getElem_mem hjf)).2; rw [Hn.out.1, hz] at this; omega
          have nz := hbn.cell z
          have enz : (nums (numRow M k k)).toArray[z]? = some (.int .i64 (if Kept M M.final[j] then numI M M.final[j] else -1)) := by
           have := numRow_get M (n := k) (s := M.final[j]) (by rw [hz]; omega) (by rw [hz]; omega)
           rw [hz, Int.toNat_natCast] at this
           rw [hz]
           simp [nums, this]
          rw [enz] at nz
          rw [hz] at x0
          obtain ⟨fva, fvc, rfl, _, _⟩ := RowAt.of_own hfo'
          have HB := Lib.hid (And.intro hfo' (And.intro hbo (And.intro hbn hbr4)))
          by_cases hkz : Kept M M.final[j]
          ·rw [if_pos hkz] at nz
           have Hs := Lib.hid (finL_yes hjf hkz)
           obtain ⟨c, hc⟩ : ∃ c : Nat, numI M M.final[j] = c := ⟨numK M (M.final[j]).toNat, rfl⟩
           rw [hc] at nz
           have Hc := Lib.hid hc
           have c2 : wr.cell? ⟨bo, 2, none⟩ = some (.slice fva (finL M j).length fvc) := hbo.cell 2
           have f2 := hbo.frozen 2
           have c9 : (wr.alloc (.cells #[.int .i64 (c : Int)] 3)).drew.cell? ⟨bo, 2, none⟩ = some (.slice fva (finL M j).length fvc) := (hbo.alloc _).cell 2
           have n9 : (wr.alloc (.cells #[.int .i64 (c : Int)] 3)).drew.cell? ⟨bo + 1, z, none⟩ = some (.int .i64 (c : Int)) := ((hbn.alloc _).cell z).trans (by rw [enz, if_pos hkz, hc])
           have hne1 := World.new_ne wr ⟨bo, 2, none⟩ c2
           have hne2 := World.new_ne wr ⟨bo + 1, z, none⟩ nz
           have k91 : Blk (wr.alloc (.cells #[.int .i64 (c : Int)] 3)).drew bo #[.int .i64 (numK M k : Nat), .int .i64 (numI M M.start), .slice fva (finL M j).length fvc, .slice none 0 0] 25 := hbo.alloc _
           have k92 : Blk (wr.alloc (.cells #[.int .i64 (c : Int)] 3)).drew (bo + 1) (nums (numRow M k k)).toArray 3 := hbn.alloc _
           have k93 : (wr.alloc (.cells #[.int .i64 (c : Int)] 3)).drew.ownsRow (bo + 2) 3 1 (.slice fva (finL M j).length fvc) (finL M j).length (nums (finL M j)) := own_drew (hfo'.alloc _)
           have H9 := Lib.hid (And.intro k91 (And.intro k92 k93))
           clear k91 k92 k93
           have Henz := Lib.hid (show (nums (numRow M k k)).toArray[z]? = some (.int .i64 (c : Int)) from by rw [enz, if_pos hkz, hc])
           clear hz hcf hfo' hbo hbn hc enz
           go_upto_region 33 with (fail)
           have hnlt := HB.out.2.2.1.lt
           have Hne := Lib.hid (show some (bo + 1) ≠ (Value.slice fva (finL M j).length fvc).ownBlock from fun e => by have := (HB.out.1.lt _ e.symm).1; omega)
           have HS9 := Lib.hid (show (fun w' : World => w'.cell? ⟨bo + 1, z, none⟩ = some (.int .i64 (c : Int))) (wr.alloc (.cells #[.int .i64 (c : Int)] 3)).drew from n9)
           refine wp_region_held_drew (S := fun w' => w'.cell? ⟨bo + 1, z, none⟩ = some (.int .i64 (c : Int))) (by kernel_rfl) nz (fun hHeld => ?_)
           refine wpAnyH_take (i := 0) (v := ?_) rfl (by kernel_rfl) (by kernel_rfl) (by kernel_rfl) (fun _ _ _ h => h) (Or.inl ⟨by rfl, ?_⟩) (by assumption) ?_
           rotate_left
           ·intro w' hSw; (try dsimp only at hSw); first | (go_simp; done) | (go_simp; with_reducible rfl)
           try simp only [Act.put, List.setIfInBounds_toArray]
           refine wpAnyH_take (i := 2) (v := ?_) rfl (by kernel_rfl) (by kernel_rfl) (by kernel_rfl) (fun _ _ _ h => h) (Or.inl ⟨by rfl, ?_⟩) (by assumption) ?_
           rotate_left
           ·intro w' hSw; (try dsimp only at hSw); first | (go_simp; done) | (go_simp; with_reducible rfl)
           try simp only [Act.put]
           refine wpAnyH_take (i := 3) (v := ?_) rfl (by kernel_rfl) (by kernel_rfl) (by kernel_rfl) (fun _ _ _ h => h) (Or.inl ⟨by rfl, ?_⟩) (by assumption) ?_
           rotate_left
           ·intro w' hSw; (try dsimp only at hSw); first | (go_simp; done) | (go_simp; with_reducible rfl)
           try simp only [Act.put]
           refine wpAnyH_take (i := 4) (v := ?_) rfl (by kernel_rfl) (by kernel_rfl) (by kernel_rfl) (fun _ _ _ h => h) (Or.inl ⟨by rfl, ?_⟩) (by assumption) ?_
           rotate_left
           ·intro w' hSw; (try dsimp only at hSw); first | (go_simp; done) | (go_simp; with_reducible rfl)
           try simp only [Act.put]
           refine wpAnyH_take (i := 5) (v := ?_) rfl (by kernel_rfl) (by kernel_rfl) (by kernel_rfl) (fun _ _ _ h => h) (Or.inl ⟨by rfl, ?_⟩) (by assumption) ?_
           rotate_left
           ·intro w' hSw; (try dsimp only at hSw); first | (go_simp; done) | (go_simp; with_reducible rfl)
           try simp only [Act.put]
           refine wpAnyH_ready (rs := [1, 6]) (by kernel_rfl) (by simp) ?_
           refine AllReadyH.cons rfl (fun K hK => ?_) (AllReadyH.cons rfl (fun K hK => ?_) AllReadyH.nil)
           ·go_simp
            refine hK.out _ _ (hHeld) (fun _ => ?_)
            clear hK K
            try simp only [Act.put, List.setIfInBounds_toArray, List.set_cons_zero, List.set_cons_succ]
            refine wpAnyH_ready (rs := [6]) (by kernel_rfl) (by simp) ?_
            refine AllReadyH.cons rfl (fun K hK => ?_) AllReadyH.nil
            go_simp
            refine hK.out _ _ (HS9.out) (fun _ => ?_)
            clear hK K
            try simp only [Act.put, List.setIfInBounds_toArray, List.set_cons_zero, List.set_cons_succ]
            refine wpAnyH_ready (rs := [7]) (by kernel_rfl) (by simp) ?_
            refine AllReadyH.cons rfl (fun K hK => ?_) AllReadyH.nil
            refine step_append_lies _ (by rfl) _ _ _ (by rfl) (bo + 2) 3 ii (.int .i64 0) 1 8 Tryz.underlying22 hii hii0 hii1 hii2 rfl (by decide) (.slice fva (finL M j).length fvc) (finL M j).length (nums (finL M j)) (by rfl) H9.out.2.2 ⟨wr.heap.size, 0, none⟩ 1 1 [.int .i64 (c : Int)] (by rfl) rfl (by exact cell_one_new _ _ _) (by simp [Value.oneCell']) (by decide) (by unfold maxLen; omega) (by omega) (by simp; omega) _ rfl ?_
            intro g cap w2 hown1 hgrow hat hlt
            have b1 := H9.out.1.grown hgrow (fun e => H9.out.1.own_ne H9.out.2.2 (by decide) e.symm)
            have b2 := H9.out.2.1.grown hgrow Hne.out
            have q0 : w2.cell? ⟨bo + 1, z, none⟩ = some (.int .i64 (c : Int)) := (b2.cell z).trans Henz.out
            have q2 := b1.cell 2
            have qf := b1.frozen 2
            refine hK.out _ _ (q0) (fun _ => ?_)
            clear hK K
            try simp only [Act.put, List.setIfInBounds_toArray]
            refine wpAnyH_take (i := 8) (v := ?_) rfl (by kernel_rfl) (by kernel_rfl) (by kernel_rfl) (fun _ _ _ h => h) (Or.inl ⟨by rfl, ?_⟩) (by assumption) ?_
            rotate_left
            ·intro w' hSw; (try dsimp only at hSw); first | (go_simp; done) | (go_simp; with_reducible rfl)
            try simp only [Act.put]
            refine wpAnyH_ready (rs := [9]) (by kernel_rfl) (by simp) ?_
            refine AllReadyH.cons rfl (fun K hK => ?_) AllReadyH.nil
            go_simp
            refine hK.out _ _ (((b2.far (p := ⟨bo, 2, none⟩) (by show bo + 1 ≠ bo; omega) (.slice (some ⟨g, 0, none⟩) ((finL M j).length + 1) cap)).cell z).trans Henz.out) (fun _ => ?_)
            clear hK K
            try simp only [Act.put, List.setIfInBounds_toArray, List.set_cons_zero, List.set_cons_succ]
            refine wpAnyH_done (by kernel_rfl) ?_ _
            have hz9 : wr.heap.size ≤ (wr.alloc (.cells #[.int .i64 (c : Int)] 3)).drew.heap.size := by simp
            have hb9 : Below w1.heap.size w1 (wr.alloc (.cells #[.int .i64 (c : Int)] 3)).drew := (HB.out.2.2.2.alloc hszr4 _).drew
            have hbF : Below w1.heap.size w1 w2 := hb9.grown hgrow (Nat.le_trans hszr4 hz9) (fun i hi => by have := (HB.out.1.lt i hi).1; omega)
            have hboN := b1.set_ 2 (.slice (some ⟨g, 0, none⟩) ((finL M j).length + 1) cap)
            have hbnN := b2.far (p := ⟨bo, 2, none⟩) (by show bo + 1 ≠ bo; omega) (.slice (some ⟨g, 0, none⟩) ((finL M j).length + 1) cap)
            have hownN := own_setCell hown1 (p := ⟨bo, 2, none⟩) (fun e => by have := (hown1.lt _ e).1; simp only at this; omega) (.slice (some ⟨g, 0, none⟩) ((finL M j).length + 1) cap)
            have hbFN := hbF.setCell (p := ⟨bo, 2, none⟩) hob (.slice (some ⟨g, 0, none⟩) ((finL M j).length + 1) cap)
            have hl1 : (finL M (j + 1)).length = (finL M j).length + 1 := by rw [Hs.out, List.length_append]; rfl
            have hnums : nums (finL M j) ++ [.int .i64 (c : Int)] = nums (finL M (j + 1)) := by rw [Hs.out, nums_append, Hc.out]; rfl
            rw [hnums] at hownN
            rw [← hl1] at hownN hboN hbnN hbFN
            have HN := Lib.hid (And.intro hownN (And.intro hboN (And.intro hbnN hbFN)))
            have Hl1 := Lib.hid hl1
            clear hownN hboN hbnN hbFN hbF hb9 hnums b1 b2 q0 q2 qf hown1 hgrow hat c2 f2 c9 n9 hl1
            go_wp2_with fail
            rw [← Hl1.out]
            exact ⟨⟨j + 1, .slice (some ⟨g, 0, none⟩) (finL M (j + 1)).length cap, by omega, by go_num, HN.out.1, HN.out.2.1, HN.out.2.2.1, HN.out.2.2.2⟩, by simp [intOf]; omega⟩
           ·go_simp
            refine hK.out _ _ (HS9.out) (fun _ => ?_)
            clear hK K
            try simp only [Act.put, List.setIfInBounds_toArray, List.set_cons_zero, List.set_cons_succ]
            refine wpAnyH_ready (rs := [1]) (by kernel_rfl) (by simp) ?_
            refine AllReadyH.cons rfl (fun K hK => ?_) AllReadyH.nil
            go_simp
            refine hK.out _ _ (HS9.out) (fun _ => ?_)
            clear hK K
            try simp only [Act.put, List.setIfInBounds_toArray, List.set_cons_zero, List.set_cons_succ]
            refine wpAnyH_ready (rs := [7]) (by kernel_rfl) (by simp) ?_
            refine AllReadyH.cons rfl (fun K hK => ?_) AllReadyH.nil
            refine step_append_lies _ (by rfl) _ _ _ (by rfl) (bo + 2) 3 ii (.int .i64 0) 1 8 Tryz.underlying22 hii hii0 hii1 hii2 rfl (by decide) (.slice fva (finL M j).length fvc) (finL M j).length (nums (finL M j)) (by rfl) H9.out.2.2 ⟨wr.heap.size, 0, none⟩ 1 1 [.int .i64 (c : Int)] (by rfl) rfl (by exact cell_one_new _ _ _) (by simp [Value.oneCell']) (by decide) (by unfold maxLen; omega) (by omega) (by simp; omega) _ rfl ?_
            intro g cap w2 hown1 hgrow hat hlt
            have b1 := H9.out.1.grown hgrow (fun e => H9.out.1.own_ne H9.out.2.2 (by decide) e.symm)
            have b2 := H9.out.2.1.grown hgrow Hne.out
            have q0 : w2.cell? ⟨bo + 1, z, none⟩ = some (.int .i64 (c : Int)) := (b2.cell z).trans Henz.out
            have q2 := b1.cell 2
            have qf := b1.frozen 2
            refine hK.out _ _ (q0) (fun _ => ?_)
            clear hK K
            try simp only [Act.put, List.setIfInBounds_toArray]
            refine wpAnyH_take (i := 8) (v := ?_) rfl (by kernel_rfl) (by kernel_rfl) (by kernel_rfl) (fun _ _ _ h => h) (Or.inl ⟨by rfl, ?_⟩) (by assumption) ?_
            rotate_left
            ·intro w' hSw; (try dsimp only at hSw); first | (go_simp; done) | (go_simp; with_reducible rfl)
            try simp only [Act.put]
            refine wpAnyH_ready (rs := [9]) (by kernel_rfl) (by simp) ?_
            refine AllReadyH.cons rfl (fun K hK => ?_) AllReadyH.nil
            go_simp
            refine hK.out _ _ (((b2.far (p := ⟨bo, 2, none⟩) (by show bo + 1 ≠ bo; omega) (.slice (some ⟨g, 0, none⟩) ((finL M j).length + 1) cap)).cell z).trans Henz.out) (fun _ => ?_)
            clear hK K
            try simp only [Act.put, List.setIfInBounds_toArray, List.set_cons_zero, List.set_cons_succ]
            refine wpAnyH_done (by kernel_rfl) ?_ _
            have hz9 : wr.heap.size ≤ (wr.alloc (.cells #[.int .i64 (c : Int)] 3)).drew.heap.size := by simp
            have hb9 : Below w1.heap.size w1 (wr.alloc (.cells #[.int .i64 (c : Int)] 3)).drew := (HB.out.2.2.2.alloc hszr4 _).drew
            have hbF : Below w1.heap.size w1 w2 := hb9.grown hgrow (Nat.le_trans hszr4 hz9) (fun i hi => by have := (HB.out.1.lt i hi).1; omega)
            have hboN := b1.set_ 2 (.slice (some ⟨g, 0, none⟩) ((finL M j).length + 1) cap)
            have hbnN := b2.far (p := ⟨bo, 2, none⟩) (by show bo + 1 ≠ bo; omega) (.slice (some ⟨g, 0, none⟩) ((finL M j).length + 1) cap)
            have hownN := own_setCell hown1 (p := ⟨bo, 2, none⟩) (fun e => by have := (hown1.lt _ e).1; simp only at this; omega) (.slice (some ⟨g, 0, none⟩) ((finL M j).length + 1) cap)
            have hbFN := hbF.setCell (p := ⟨bo, 2, none⟩) hob (.slice (some ⟨g, 0, none⟩) ((finL M j).length + 1) cap)
            have hl1 : (finL M (j + 1)).length = (finL M j).length + 1 := by rw [Hs.out, List.length_append]; rfl
            have hnums : nums (finL M j) ++ [.int .i64 (c : Int)] = nums (finL M (j + 1)) := by rw [Hs.out, nums_append, Hc.out]; rfl
            rw [hnums] at hownN
            rw [← hl1] at hownN hboN hbnN hbFN
            have HN := Lib.hid (And.intro hownN (And.intro hboN (And.intro hbnN hbFN)))
            have Hl1 := Lib.hid hl1
            clear hownN hboN hbnN hbFN hbF hb9 hnums b1 b2 q0 q2 qf hown1 hgrow hat c2 f2 c9 n9 hl1
            go_wp2_with fail
            rw [← Hl1.out]
            exact ⟨⟨j + 1, .slice (some ⟨g, 0, none⟩) (finL M (j + 1)).length cap, by omega, by go_num, HN.out.1, HN.out.2.1, HN.out.2.2.1, HN.out.2.2.2⟩, by simp [intOf]; omega⟩
          ·rw [if_neg hkz] at nz
           have Hs := Lib.hid (finL_no hjf hkz)
           clear hz hcf hfo' hbo hbn enz hkz
           go_wp2_with fail
           exact ⟨⟨j + 1, .slice fva (finL M j).length fvc, by omega, by go_num, by rw [Hs.out]; exact HB.out.1, HB.out.2.1, HB.out.2.2.1, HB.out.2.2.2⟩, by simp [intOf]; omega⟩
         ·obtain rfl : j = M.final.length := by omega
          obtain ⟨wR, rfl⟩ : ∃ wR : World, wR = wr := ⟨_, rfl⟩
          obtain ⟨fva, fvc, rfl, _, _⟩ := RowAt.of_own hfo'
          obtain ⟨m0, m1, m2, m3⟩ := HM.out wR (hb1.trans (hbr4.mono hb1.size))
          have HR4 := Lib.hid (And.intro hfo' (And.intro hbo (And.intro hbn hbr4)))
          clear hfo' hbo hbn
          go_wp2_with fail
          clear m0 m1 m2 m3
          obtain ⟨ja, hja1, hja2, hja3, hja4⟩ := info_parts info_arc
          go_loopw [142] (fun i wx => ∃ (j : Nat) (av : Value), j ≤ M.arcs.length ∧ i = .int .i64 j ∧ wx.ownsRow (bo + 2) 40 4 av (arcL M j).length (flat (arcL M j)) ∧ Blk wx bo #[.int .i64 (numK M k : Nat), .int .i64 (numI M M.start), .slice fva (finL M M.final.length).length fvc, av] 25 ∧ Blk wx (bo + 1) (nums (numRow M k k)).toArray 3 ∧
           wx.ownsRow (bo + 2) 3 1 (.slice fva (finL M M.final.length).length fvc) (finL M M.final.length).length (nums (finL M M.final.length)) ∧ Below w1.heap.size w1 wx) (fun i _ => M.arcs.length - (intOf i).toNat)
          case atStart => exact ⟨0, _, Nat.zero_le _, rfl, World.ownsRow_nil _ _ _ _, HR4.out.2.1, HR4.out.2.2.1, HR4.out.1, HR4.out.2.2.2⟩
          case round =>
           obtain ⟨j, av, hj, rfl, hav, hbo, hbn, hfo', hbr5⟩ := hrel
           have hszr5 := hbr5.size
           have hbwr5 := hw1.trans (hbr5.mono hw1.size)
           have hall := arcL_len M j
           obtain ⟨ava, avc, rfl, _, _⟩ := RowAt.of_own hav
           have hnlt := hbn.lt
           by_cases hja : j < M.arcs.length
           ·obtain ⟨b, off, rfl, hb, hcf⟩ := (ha.below hbwr5 (Nat.le_refl _)).arcs (by omega)
            obtain ⟨y0, y1, y2, y3⟩ := hcf j hja
            obtain ⟨z, hz⟩ : ∃ z, z = M.arcs[j] := ⟨_, rfl⟩
            have hzv := Hv.out.arcs _ (List.getElem_mem hja)
            rw [← hz] at y0 y1 y2 y3 hzv
            have Hz := Lib.hid hz
            clear hz hcf
            obtain ⟨p, hp⟩ : ∃ p : Nat, z.frm = p := ⟨z.frm.toNat, by have := hzv.1.1; omega⟩
            obtain ⟨q, hq⟩ : ∃ q : Nat, z.to = q := ⟨z.to.toNat, by have := hzv.2.1.1; omega⟩
            have hpk : p < k := by have := hzv.1.2; rw [Hn.out.1, hp] at this; omega
            have hqk : q < k := by have := hzv.2.1.2; rw [Hn.out.1, hq] at this; omega
            have enp : (nums (numRow M k k)).toArray[p]? = some (.int .i64 (if Kept M z.frm then numI M z.frm else -1)) := by
             have := numRow_get M (n := k) (s := z.frm) (by rw [hp]; omega) (by rw [hp]; omega)
             rw [hp, Int.toNat_natCast] at this
             rw [hp]
             simp [nums, this]
            have enq : (nums (numRow M k k)).toArray[q]? = some (.int .i64 (if Kept M z.to then numI M z.to else -1)) := by
             have := numRow_get M (n := k) (s := z.to) (by rw [hq]; omega) (by rw [hq]; omega)
             rw [hq, Int.toNat_natCast] at this
             rw [hq]
             simp [nums, this]
            rw [hp] at y0
            rw [hq] at y3
            have Hpq := Lib.hid (And.intro hp hq)
            have Hen := Lib.hid (And.intro enp enq)
            clear hzv hp hq
            go_upto_region 38 with (fail)
            obtain ⟨W8, hW8⟩ : ∃ W8 : World, W8 = wr.alloc (.cells #[.int .i64 p, .int .i64 z.inp, .int .i64 z.out, .int .i64 q] 40) := ⟨_, rfl⟩
            rw [← hW8]
            have hb8 : Below wr.heap.size wr W8 := by rw [hW8]; exact (Below.refl _ _).alloc (Nat.le_refl _) _
            have kz8 : Blk W8 wr.heap.size #[.int .i64 p, .int .i64 z.inp, .int .i64 z.out, .int .i64 q] 40 := by rw [hW8]; exact Blk.new _ _ _
            have hs8 : W8.heap.size = wr.heap.size + 1 := by rw [hW8]; simp
            have H8 := Lib.hid (And.intro (own_below hav hb8) (And.intro (hbo.below hb8 hbo.lt) (And.intro (hbn.below hb8 hbn.lt) (And.intro (own_below hfo' hb8) (And.intro (hbr5.trans (hb8.mono hszr5)) kz8)))))
            have np := H8.out.2.2.1.cell p
            have nq := H8.out.2.2.1.cell q
            rw [enp] at np
            rw [enq] at nq
            have z0 : W8.cell? ⟨wr.heap.size, 0, none⟩ = some (.int .i64 p) := kz8.cell 0
            have z1 : W8.cell? ⟨wr.heap.size, 1, none⟩ = some (.int .i64 z.inp) := kz8.cell 1
            have z2 : W8.cell? ⟨wr.heap.size, 2, none⟩ = some (.int .i64 z.out) := kz8.cell 2
            have z3 : W8.cell? ⟨wr.heap.size, 3, none⟩ = some (.int .i64 q) := kz8.cell 3
            have Hav := Lib.hid (show some wr.heap.size ≠ (Value.slice ava (arcL M j).length avc).ownBlock from fun e => by have := (hav.lt _ e.symm).2; omega)
            clear hW8 hb8 kz8 hav hbo hbn hfo' enp enq y0 y1 y2 y3
            by_cases hkp : Kept M z.frm
            ·rw [if_pos hkp] at np
             obtain ⟨c1, hc1⟩ : ∃ c : Nat, numI M z.frm = c := ⟨numK M z.frm.toNat, rfl⟩
             rw [hc1] at np
             by_cases hkq : Kept M z.to
             ·rw [if_pos hkq] at nq
              obtain ⟨c2, hc2⟩ : ∃ c : Nat, numI M z.to = c := ⟨numK M z.to.toNat, rfl⟩
              rw [hc2] at nq
              have Hc := Lib.hid (And.intro hc1 hc2)
              have Hs := Lib.hid (arcL_yes hja (by rw [← Hz.out]; exact ⟨hkp, hkq⟩))
              clear hc1 hc2 hkp hkq
              go_upto_region 39 with (fail)
              have k91 : Blk (W8.alloc (.cells #[.int .i64 c1, .int .i64 z.inp, .int .i64 z.out, .int .i64 c2] 40)).drew bo #[.int .i64 (numK M k : Nat), .int .i64 (numI M M.start), .slice fva (finL M M.final.length).length fvc, .slice ava (arcL M j).length avc] 25 := H8.out.2.1.alloc _
              have b9 : Below W8.heap.size W8 (W8.alloc (.cells #[.int .i64 c1, .int .i64 z.inp, .int .i64 z.out, .int .i64 c2] 40)).drew := ((Below.refl _ _).alloc (Nat.le_refl _) _).drew
              have e9 : Blk (W8.alloc (.cells #[.int .i64 c1, .int .i64 z.inp, .int .i64 z.out, .int .i64 c2] 40)).drew (wr.heap.size + 1) #[.int .i64 c1, .int .i64 z.inp, .int .i64 z.out, .int .i64 c2] 40 := by rw [← hs8]; exact Blk.new _ _ _
              have k92 := H8.out.2.2.1.below b9 H8.out.2.2.1.lt
              have k93 := own_below H8.out.1 b9
              have k94 := own_below H8.out.2.2.2.1 b9
              have k95 := H8.out.2.2.2.2.2.below b9 H8.out.2.2.2.2.2.lt
              have k96 := H8.out.2.2.2.2.1.trans (b9.mono (by omega))
              have c3 : W8.cell? ⟨bo, 3, none⟩ = some (.slice ava (arcL M j).length avc) := H8.out.2.1.cell 3
              have c39 := k91.cell 3
              have f3 := k91.frozen 3
              simp only [List.getElem?_toArray, List.getElem?_cons_zero, List.getElem?_cons_succ] at c39
              have hS9 : (fun w' : World => w'.cell? ⟨bo + 1, p, none⟩ = some (.int .i64 c1) ∧ w'.cell? ⟨bo + 1, q, none⟩ = some (.int .i64 c2) ∧ w'.cell? ⟨wr.heap.size, 0, none⟩ = some (.int .i64 p) ∧ w'.cell? ⟨wr.heap.size, 1, none⟩ = some (.int .i64 z.inp) ∧ w'.cell? ⟨wr.heap.size, 2, none⟩ = some (.int .i64 z.out) ∧ w'.cell? ⟨wr.heap.size, 3, none⟩ = some (.int .i64 q)) (W8.alloc (.cells #[.int .i64 c1, .int .i64 z.inp, .int .i64 z.out, .int .i64 c2] 40)).drew :=
               ⟨(b9.cell (p := ⟨bo + 1, p, none⟩) H8.out.2.2.1.lt).trans np, (b9.cell (p := ⟨bo + 1, q, none⟩) H8.out.2.2.1.lt).trans nq, k95.cell 0, k95.cell 1, k95.cell 2, k95.cell 3⟩
              have H9 := Lib.hid (And.intro k91 (And.intro k92 (And.intro k93 (And.intro k94 (And.intro k95 (And.intro k96 e9))))))
              have HS9 := Lib.hid hS9
              clear k91 k92 k93 k94 k95 k96 b9 e9 hS9
              refine wp_region_held_drew (S := fun w' => w'.cell? ⟨bo + 1, p, none⟩ = some (.int .i64 c1) ∧ w'.cell? ⟨bo + 1, q, none⟩ = some (.int .i64 c2) ∧ w'.cell? ⟨wr.heap.size, 0, none⟩ = some (.int .i64 p) ∧ w'.cell? ⟨wr.heap.size, 1, none⟩ = some (.int .i64 z.inp) ∧ w'.cell? ⟨wr.heap.size, 2, none⟩ = some (.int .i64 z.out) ∧ w'.cell? ⟨wr.heap.size, 3, none⟩ = some (.int .i64 q)) (by kernel_rfl) ⟨np, nq, z0, z1, z2, z3⟩ (fun hHeld => ?_)
              refine wpAnyH_take (i := 0) (v := ?_) rfl (by kernel_rfl) (by kernel_rfl) (by kernel_rfl) (fun _ _ _ h => h) (Or.inl ⟨by rfl, ?_⟩) (by assumption) ?_
              rotate_left
              ·intro w' hSw; (try dsimp only at hSw); first | (go_simp; done) | (go_simp; with_reducible rfl)
              try simp only [Act.put, List.setIfInBounds_toArray]
              refine wpAnyH_take (i := 2) (v := ?_) rfl (by kernel_rfl) (by kernel_rfl) (by kernel_rfl) (fun _ _ _ h => h) (Or.inl ⟨by rfl, ?_⟩) (by assumption) ?_
              rotate_left
              ·intro w' hSw; (try dsimp only at hSw); first | (go_simp; done) | (go_simp; with_reducible rfl)
              try simp only [Act.put]
              refine wpAnyH_take (i := 3) (v := ?_) rfl (by kernel_rfl) (by kernel_rfl) (by kernel_rfl) (fun _ _ _ h => h) (Or.inl ⟨by rfl, ?_⟩) (by assumption) ?_
              rotate_left
              ·intro w' hSw; (try dsimp only at hSw); first | (go_simp; done) | (go_simp; with_reducible rfl)
              try simp only [Act.put]
              refine wpAnyH_take (i := 4) (v := ?_) rfl (by kernel_rfl) (by kernel_rfl) (by kernel_rfl) (fun _ _ _ h => h) (Or.inl ⟨by rfl, ?_⟩) (by assumption) ?_
              rotate_left
              ·intro w' hSw; (try dsimp only at hSw); first | (go_simp; done) | (go_simp; with_reducible rfl)
              try simp only [Act.put]
              refine wpAnyH_take (i := 5) (v := ?_) rfl (by kernel_rfl) (by kernel_rfl) (by kernel_rfl) (fun _ _ _ h => h) (Or.inl ⟨by rfl, ?_⟩) (by assumption) ?_
              rotate_left
              ·intro w' hSw; (try dsimp only at hSw); first | (go_simp; done) | (go_simp; with_reducible rfl)
              try simp only [Act.put]
              refine wpAnyH_take (i := 6) (v := ?_) rfl (by kernel_rfl) (by kernel_rfl) (by kernel_rfl) (fun _ _ _ h => h) (Or.inl ⟨by rfl, ?_⟩) (by assumption) ?_
              rotate_left
              ·intro w' hSw; (try dsimp only at hSw); first | (go_simp; done) | (go_simp; with_reducible rfl)
              try simp only [Act.put]
              refine wpAnyH_take (i := 7) (v := ?_) rfl (by kernel_rfl) (by kernel_rfl) (by kernel_rfl) (fun _ _ _ h => h) (Or.inl ⟨by rfl, ?_⟩) (by assumption) ?_
              rotate_left
              ·intro w' hSw; (try dsimp only at hSw); first | (go_simp; done) | (go_simp; with_reducible rfl)
              try simp only [Act.put]
              refine wpAnyH_take (i := 8) (v := ?_) rfl (by kernel_rfl) (by kernel_rfl) (by kernel_rfl) (fun _ _ _ h => h) (Or.inl ⟨by rfl, ?_⟩) (by assumption) ?_
              rotate_left
              ·intro w' hSw; (try dsimp only at hSw); first | (go_simp; done) | (go_simp; with_reducible rfl)
              try simp only [Act.put]
              refine wpAnyH_take (i := 9) (v := ?_) rfl (by kernel_rfl) (by kernel_rfl) (by kernel_rfl) (fun _ _ _ h => h) (Or.inl ⟨by rfl, ?_⟩) (by assumption) ?_
              rotate_left
              ·intro w' hSw; (try dsimp only at hSw); first | (go_simp; done) | (go_simp; with_reducible rfl)
              try simp only [Act.put]
              refine wpAnyH_take (i := 10) (v := ?_) rfl (by kernel_rfl) (by kernel_rfl) (by kernel_rfl) (fun _ _ _ h => h) (Or.inl ⟨by rfl, ?_⟩) (by assumption) ?_
              rotate_left
              ·intro w' hSw; (try dsimp only at hSw); first | (go_simp; done) | (go_simp; with_reducible rfl)
              try simp only [Act.put]
              refine wpAnyH_take (i := 11) (v := ?_) rfl (by kernel_rfl) (by kernel_rfl) (by kernel_rfl) (fun _ _ _ h => h) (Or.inl ⟨by rfl, ?_⟩) (by assumption) ?_
              rotate_left
              ·intro w' hSw; (try dsimp only at hSw); first | (go_simp; done) | (go_simp; with_reducible rfl)
              try simp only [Act.put]
              refine wpAnyH_take (i := 12) (v := ?_) rfl (by kernel_rfl) (by kernel_rfl) (by kernel_rfl) (fun _ _ _ h => h) (Or.inl ⟨by rfl, ?_⟩) (by assumption) ?_
              rotate_left
              ·intro w' hSw; (try dsimp only at hSw); first | (go_simp; done) | (go_simp; with_reducible rfl)
              try simp only [Act.put]
              refine wpAnyH_take (i := 13) (v := ?_) rfl (by kernel_rfl) (by kernel_rfl) (by kernel_rfl) (fun _ _ _ h => h) (Or.inl ⟨by rfl, ?_⟩) (by assumption) ?_
              rotate_left
              ·intro w' hSw; (try dsimp only at hSw); first | (go_simp; done) | (go_simp; with_reducible rfl)
              try simp only [Act.put]
              refine wpAnyH_take (i := 14) (v := ?_) rfl (by kernel_rfl) (by kernel_rfl) (by kernel_rfl) (fun _ _ _ h => h) (Or.inl ⟨by rfl, ?_⟩) (by assumption) ?_
              rotate_left
              ·intro w' hSw; (try dsimp only at hSw); first | (go_simp; done) | (go_simp; with_reducible rfl)
              try simp only [Act.put]
              refine wpAnyH_take (i := 15) (v := ?_) rfl (by kernel_rfl) (by kernel_rfl) (by kernel_rfl) (fun _ _ _ h => h) (Or.inl ⟨by rfl, ?_⟩) (by assumption) ?_
              rotate_left
              ·intro w' hSw; (try dsimp only at hSw); first | (go_simp; done) | (go_simp; with_reducible rfl)
              try simp only [Act.put]
              refine wpAnyH_take (i := 16) (v := ?_) rfl (by kernel_rfl) (by kernel_rfl) (by kernel_rfl) (fun _ _ _ h => h) (Or.inl ⟨by rfl, ?_⟩) (by assumption) ?_
              rotate_left
              ·intro w' hSw; (try dsimp only at hSw); first | (go_simp; done) | (go_simp; with_reducible rfl)
              try simp only [Act.put]
              refine wpAnyH_ready (rs := [1, 17]) (by kernel_rfl) (by simp) ?_
              refine AllReadyH.cons rfl (fun K hK => ?_) (AllReadyH.cons rfl (fun K hK => ?_) AllReadyH.nil)
              ·go_simp
               refine hK.out _ _ (hHeld) (fun _ => ?_)
               clear hK K
               try simp only [Act.put, List.setIfInBounds_toArray, List.set_cons_zero, List.set_cons_succ]
               refine wpAnyH_ready (rs := [17]) (by kernel_rfl) (by simp) ?_
               refine AllReadyH.cons rfl (fun K hK => ?_) AllReadyH.nil
               go_simp
               refine hK.out _ _ (HS9.out) (fun _ => ?_)
               clear hK K
               try simp only [Act.put, List.setIfInBounds_toArray, List.set_cons_zero, List.set_cons_succ]
               refine wpAnyH_ready (rs := [18]) (by kernel_rfl) (by simp) ?_
               refine AllReadyH.cons rfl (fun K hK => ?_) AllReadyH.nil
               refine step_append_lies _ (by rfl) _ _ _ (by rfl) (bo + 2) 40 ja _ 4 32 Tryz.underlying23 hja1 hja2 hja3 hja4 rfl (by decide) (.slice ava (arcL M j).length avc) (arcL M j).length (flat (arcL M j)) (by rfl) H9.out.2.2.1 ⟨wr.heap.size + 1, 0, none⟩ 1 1 [.int .i64 c1, .int .i64 z.inp, .int .i64 z.out, .int .i64 c2] (by rfl) rfl (World.news_of_block H9.out.2.2.2.2.2.2) (by simp [Value.oneCell']) (by decide) (by unfold maxLen; omega) (by omega) (by simp; omega) _ rfl ?_
               intro g cap w2 hown1 hgrow hat hlt
               have g1 := H9.out.1.grown hgrow (fun e => H9.out.1.own_ne H9.out.2.2.1 (by decide) e.symm)
               have g2 := H9.out.2.1.grown hgrow (fun e => H9.out.2.1.own_ne H9.out.2.2.1 (by decide) e.symm)
               have g3 := H9.out.2.2.2.2.1.grown hgrow Hav.out
               have q1 := (g2.cell p).trans ((H9.out.2.1.cell p).symm.trans HS9.out.1)
               have q2 := (g2.cell q).trans ((H9.out.2.1.cell q).symm.trans HS9.out.2.1)
               have d3 := g1.cell 3
               have f3' := g1.frozen 3
               refine hK.out _ _ (⟨q1, q2, g3.cell 0, g3.cell 1, g3.cell 2, g3.cell 3⟩) (fun _ => ?_)
               clear hK K
               try simp only [Act.put, List.setIfInBounds_toArray]
               refine wpAnyH_take (i := 19) (v := ?_) rfl (by kernel_rfl) (by kernel_rfl) (by kernel_rfl) (fun _ _ _ h => h) (Or.inl ⟨by rfl, ?_⟩) (by assumption) ?_
               rotate_left
               ·intro w' hSw; (try dsimp only at hSw); first | (go_simp; done) | (go_simp; with_reducible rfl)
               try simp only [Act.put]
               refine wpAnyH_ready (rs := [20]) (by kernel_rfl) (by simp) ?_
               refine AllReadyH.cons rfl (fun K hK => ?_) AllReadyH.nil
               go_simp
               have g3N := g3.far (p := ⟨bo, 3, none⟩) (by show wr.heap.size ≠ bo; omega) (.slice (some ⟨g, 0, none⟩) ((arcL M j).length + 1) cap)
               have g2N := g2.far (p := ⟨bo, 3, none⟩) (by show bo + 1 ≠ bo; omega) (.slice (some ⟨g, 0, none⟩) ((arcL M j).length + 1) cap)
               refine hK.out _ _ (⟨(g2N.cell p).trans ((g2.cell p).symm.trans q1), (g2N.cell q).trans ((g2.cell q).symm.trans q2), g3N.cell 0, g3N.cell 1, g3N.cell 2, g3N.cell 3⟩) (fun _ => ?_)
               clear hK K
               try simp only [Act.put, List.setIfInBounds_toArray, List.set_cons_zero, List.set_cons_succ]
               refine wpAnyH_done (by kernel_rfl) ?_ _
               have hownN := own_setCell hown1 (p := ⟨bo, 3, none⟩) (fun e => by have := (hown1.lt _ e).1; simp only at this; omega) (.slice (some ⟨g, 0, none⟩) ((arcL M j).length + 1) cap)
               have g1N := g1.set_ 3 (.slice (some ⟨g, 0, none⟩) ((arcL M j).length + 1) cap)
               have hfv1 := own_kept_other H9.out.2.2.2.1 H9.out.2.2.1 (by decide) hgrow
               have hfvN := own_setCell hfv1 (p := ⟨bo, 3, none⟩) (fun e => by have := (hfv1.lt _ e).1; simp only at this; omega) (.slice (some ⟨g, 0, none⟩) ((arcL M j).length + 1) cap)
               have hbF : Below w1.heap.size w1 w2 := H9.out.2.2.2.2.2.1.grown hgrow H9.out.2.2.2.2.2.1.size (fun i hi => by have := (H9.out.2.2.1.lt i hi).1; omega)
               have hbFN := hbF.setCell (p := ⟨bo, 3, none⟩) hob (.slice (some ⟨g, 0, none⟩) ((arcL M j).length + 1) cap)
               have hl1 : (arcL M (j + 1)).length = (arcL M j).length + 1 := by rw [Hs.out, List.length_append]; rfl
               have hflat : flat (arcL M j) ++ [.int .i64 (c1 : Int), .int .i64 z.inp, .int .i64 z.out, .int .i64 (c2 : Int)] = flat (arcL M (j + 1)) := by
                rw [Hs.out, ← Hz.out, flat_append]; simp [flat, Arc.num, Arc.cells, Hc.out.1, Hc.out.2]
               rw [hflat] at hownN
               rw [← hl1] at hownN g1N g2N hfvN hbFN
               have HN := Lib.hid (And.intro hownN (And.intro g1N (And.intro g2N (And.intro hfvN hbFN))))
               have Hl1 := Lib.hid hl1
               clear hownN g1N g2N g3N hfvN hfv1 hbFN hbF hflat g1 g2 g3 q1 q2 d3 f3' hown1 hgrow hat hl1 c3 c39 f3
               go_wp2_with fail
               rw [← Hl1.out]
               exact ⟨⟨j + 1, .slice (some ⟨g, 0, none⟩) (arcL M (j + 1)).length cap, by omega, by go_num, HN.out.1, HN.out.2.1, HN.out.2.2.1, HN.out.2.2.2.1, HN.out.2.2.2.2⟩, by simp [intOf]; omega⟩
              ·go_simp
               refine hK.out _ _ (HS9.out) (fun _ => ?_)
               clear hK K
               try simp only [Act.put, List.setIfInBounds_toArray, List.set_cons_zero, List.set_cons_succ]
               refine wpAnyH_ready (rs := [1]) (by kernel_rfl) (by simp) ?_
               refine AllReadyH.cons rfl (fun K hK => ?_) AllReadyH.nil
               go_simp
               refine hK.out _ _ (HS9.out) (fun _ => ?_)
               clear hK K
               try simp only [Act.put, List.setIfInBounds_toArray, List.set_cons_zero, List.set_cons_succ]
               refine wpAnyH_ready (rs := [18]) (by kernel_rfl) (by simp) ?_
               refine AllReadyH.cons rfl (fun K hK => ?_) AllReadyH.nil
               refine step_append_lies _ (by rfl) _ _ _ (by rfl) (bo + 2) 40 ja _ 4 32 Tryz.underlying23 hja1 hja2 hja3 hja4 rfl (by decide) (.slice ava (arcL M j).length avc) (arcL M j).length (flat (arcL M j)) (by rfl) H9.out.2.2.1 ⟨wr.heap.size + 1, 0, none⟩ 1 1 [.int .i64 c1, .int .i64 z.inp, .int .i64 z.out, .int .i64 c2] (by rfl) rfl (World.news_of_block H9.out.2.2.2.2.2.2) (by simp [Value.oneCell']) (by decide) (by unfold maxLen; omega) (by omega) (by simp; omega) _ rfl ?_
               intro g cap w2 hown1 hgrow hat hlt
               have g1 := H9.out.1.grown hgrow (fun e => H9.out.1.own_ne H9.out.2.2.1 (by decide) e.symm)
               have g2 := H9.out.2.1.grown hgrow (fun e => H9.out.2.1.own_ne H9.out.2.2.1 (by decide) e.symm)
               have g3 := H9.out.2.2.2.2.1.grown hgrow Hav.out
               have q1 := (g2.cell p).trans ((H9.out.2.1.cell p).symm.trans HS9.out.1)
               have q2 := (g2.cell q).trans ((H9.out.2.1.cell q).symm.trans HS9.out.2.1)
               have d3 := g1.cell 3
               have f3' := g1.frozen 3
               refine hK.out _ _ (⟨q1, q2, g3.cell 0, g3.cell 1, g3.cell 2, g3.cell 3⟩) (fun _ => ?_)
               clear hK K
               try simp only [Act.put, List.setIfInBounds_toArray]
               refine wpAnyH_take (i := 19) (v := ?_) rfl (by kernel_rfl) (by kernel_rfl) (by kernel_rfl) (fun _ _ _ h => h) (Or.inl ⟨by rfl, ?_⟩) (by assumption) ?_
               rotate_left
               ·intro w' hSw; (try dsimp only at hSw); first | (go_simp; done) | (go_simp; with_reducible rfl)
               try simp only [Act.put]
               refine wpAnyH_ready (rs := [20]) (by kernel_rfl) (by simp) ?_
               refine AllReadyH.cons rfl (fun K hK => ?_) AllReadyH.nil
               go_simp
               have g3N := g3.far (p := ⟨bo, 3, none⟩) (by show wr.heap.size ≠ bo; omega) (.slice (some ⟨g, 0, none⟩) ((arcL M j).length + 1) cap)
               have g2N := g2.far (p := ⟨bo, 3, none⟩) (by show bo + 1 ≠ bo; omega) (.slice (some ⟨g, 0, none⟩) ((arcL M j).length + 1) cap)
               refine hK.out _ _ (⟨(g2N.cell p).trans ((g2.cell p).symm.trans q1), (g2N.cell q).trans ((g2.cell q).symm.trans q2), g3N.cell 0, g3N.cell 1, g3N.cell 2, g3N.cell 3⟩) (fun _ => ?_)
               clear hK K
               try simp only [Act.put, List.setIfInBounds_toArray, List.set_cons_zero, List.set_cons_succ]
               refine wpAnyH_done (by kernel_rfl) ?_ _
               have hownN := own_setCell hown1 (p := ⟨bo, 3, none⟩) (fun e => by have := (hown1.lt _ e).1; simp only at this; omega) (.slice (some ⟨g, 0, none⟩) ((arcL M j).length + 1) cap)
               have g1N := g1.set_ 3 (.slice (some ⟨g, 0, none⟩) ((arcL M j).length + 1) cap)
               have hfv1 := own_kept_other H9.out.2.2.2.1 H9.out.2.2.1 (by decide) hgrow
               have hfvN := own_setCell hfv1 (p := ⟨bo, 3, none⟩) (fun e => by have := (hfv1.lt _ e).1; simp only at this; omega) (.slice (some ⟨g, 0, none⟩) ((arcL M j).length + 1) cap)
               have hbF : Below w1.heap.size w1 w2 := H9.out.2.2.2.2.2.1.grown hgrow H9.out.2.2.2.2.2.1.size (fun i hi => by have := (H9.out.2.2.1.lt i hi).1; omega)
               have hbFN := hbF.setCell (p := ⟨bo, 3, none⟩) hob (.slice (some ⟨g, 0, none⟩) ((arcL M j).length + 1) cap)
               have hl1 : (arcL M (j + 1)).length = (arcL M j).length + 1 := by rw [Hs.out, List.length_append]; rfl
               have hflat : flat (arcL M j) ++ [.int .i64 (c1 : Int), .int .i64 z.inp, .int .i64 z.out, .int .i64 (c2 : Int)] = flat (arcL M (j + 1)) := by
                rw [Hs.out, ← Hz.out, flat_append]; simp [flat, Arc.num, Arc.cells, Hc.out.1, Hc.out.2]
               rw [hflat] at hownN
               rw [← hl1] at hownN g1N g2N hfvN hbFN
               have HN := Lib.hid (And.intro hownN (And.intro g1N (And.intro g2N (And.intro hfvN hbFN))))
               have Hl1 := Lib.hid hl1
               clear hownN g1N g2N g3N hfvN hfv1 hbFN hbF hflat g1 g2 g3 q1 q2 d3 f3' hown1 hgrow hat hl1 c3 c39 f3
               go_wp2_with fail
               rw [← Hl1.out]
               exact ⟨⟨j + 1, .slice (some ⟨g, 0, none⟩) (arcL M (j + 1)).length cap, by omega, by go_num, HN.out.1, HN.out.2.1, HN.out.2.2.1, HN.out.2.2.2.1, HN.out.2.2.2.2⟩, by simp [intOf]; omega⟩
             ·rw [if_neg hkq] at nq
              have Hs := Lib.hid (arcL_no hja (by rw [← Hz.out]; exact fun h => hkq h.2))
              clear hc1 hkp hkq
              go_wp2_with fail
              exact ⟨⟨j + 1, .slice ava (arcL M j).length avc, by omega, by go_num, by rw [Hs.out]; exact H8.out.1, H8.out.2.1, H8.out.2.2.1, H8.out.2.2.2.1, H8.out.2.2.2.2.1⟩, by simp [intOf]; omega⟩
            ·rw [if_neg hkp] at np
             have Hs := Lib.hid (arcL_no hja (by rw [← Hz.out]; exact fun h => hkp h.1))
             clear hkp
             go_wp2_with fail
             exact ⟨⟨j + 1, .slice ava (arcL M j).length avc, by omega, by go_num, by rw [Hs.out]; exact H8.out.1, H8.out.2.1, H8.out.2.2.1, H8.out.2.2.2.1, H8.out.2.2.2.2.1⟩, by simp [intOf]; omega⟩
           ·obtain rfl : j = M.arcs.length := by omega
            obtain ⟨wS, rfl⟩ : ∃ wS : World, wS = wr := ⟨_, rfl⟩
            have hT : trimM M = ⟨(numK M k : Nat), numI M M.start, finL M M.final.length, arcL M M.arcs.length⟩ := by
             unfold trimM finL arcL
             rw [List.take_length, List.take_length]
             congr 1
             unfold numI
             rw [Hn.out.1, Int.toNat_natCast]
            have hb60 := hb1.trans (hbr5.mono hb1.size)
            have hR6 := HR.out wS hb60
            have q0 : wS.cell? ⟨w.heap.size + 1, 0, none⟩ = some (.int .i64 0) := hR6.cell 0
            have q1 : wS.cell? ⟨w.heap.size + 1, 1, none⟩ = some (.int .i64 0) := hR6.cell 1
            have q2 : wS.cell? ⟨w.heap.size + 1, 2, none⟩ = some (.slice none 0 0) := hR6.cell 2
            have q3 : wS.cell? ⟨w.heap.size + 1, 3, none⟩ = some (.slice none 0 0) := hR6.cell 3
            have f0 : ∀ j, wS.frozen? ⟨w.heap.size + 1, j, none⟩ = false := fun j => hR6.frozen j
            have o0 : wS.cell? ⟨bo, 0, none⟩ = some (.int .i64 (numK M k : Nat)) := hbo.cell 0
            have o1 : wS.cell? ⟨bo, 1, none⟩ = some (.int .i64 (numI M M.start)) := hbo.cell 1
            have o2 : wS.cell? ⟨bo, 2, none⟩ = some (.slice fva (finL M M.final.length).length fvc) := hbo.cell 2
            have o3 : wS.cell? ⟨bo, 3, none⟩ = some (.slice ava (arcL M M.arcs.length).length avc) := hbo.cell 3
            have hl1 := HW0.out.2.2
            have hne : bo ≠ w.heap.size + 1 := by omega
            have hfll := finL_len M M.final.length
            have HF5 := Lib.hid (And.intro hav (And.intro hfo' (And.intro hT hbwr5)))
            have hlt6 := hbwr5.size
            clear hR6 hbo hbn hav hfo' hT
            go_wp2
            refine bodyPost_ret (v := .tuple #[.agg #[.int .i64 (numK M k : Nat), .int .i64 (numI M M.start), .slice fva (finL M M.final.length).length fvc, .slice ava (arcL M M.arcs.length).length avc], .int .i64 0]) (by simp [results, Tryz.results25, go_sem, q0, q1, q2, q3]) rfl ?_
            have hbs := (((HF5.out.2.2.2.setCell (p := ⟨w.heap.size + 1, 0, none⟩) (by simp) (.int .i64 (numK M k : Nat))).setCell (p := ⟨w.heap.size + 1, 1, none⟩) (by simp) (.int .i64 (numI M M.start))).setCell (p := ⟨w.heap.size + 1, 2, none⟩) (by simp) (.slice fva (finL M M.final.length).length fvc)).setCell (p := ⟨w.heap.size + 1, 3, none⟩) (by simp) (.slice ava (arcL M M.arcs.length).length avc)
            obtain ⟨_, _, e1, _, hrS⟩ := RowAt.of_own HF5.out.1
            injection e1 with e1 _ e1c
            subst e1 e1c
            obtain ⟨_, _, e2, _, hrF⟩ := RowAt.of_own HF5.out.2.1
            injection e2 with e2 _ e2c
            subst e2 e2c
            have hneS : ∀ bb o, ava = some ⟨bb, o, none⟩ → bb ≠ w.heap.size + 1 := fun bb o e => by
             have := (HF5.out.1.lt bb (by rw [e]; rfl)).1; omega
            have hneF : ∀ bb o, fva = some ⟨bb, o, none⟩ → bb ≠ w.heap.size + 1 := fun bb o e => by
             have := (HF5.out.2.1.lt bb (by rw [e]; rfl)).1; omega
            have hrow1 := (((hrS.setC (p := ⟨w.heap.size + 1, 0, none⟩) hneS (.int .i64 (numK M k : Nat))).setC (p := ⟨w.heap.size + 1, 1, none⟩) hneS (.int .i64 (numI M M.start))).setC (p := ⟨w.heap.size + 1, 2, none⟩) hneS (.slice fva (finL M M.final.length).length fvc)).setC (p := ⟨w.heap.size + 1, 3, none⟩) hneS (.slice ava (arcL M M.arcs.length).length avc)
            have hrow2 := (((hrF.setC (p := ⟨w.heap.size + 1, 0, none⟩) hneF (.int .i64 (numK M k : Nat))).setC (p := ⟨w.heap.size + 1, 1, none⟩) hneF (.int .i64 (numI M M.start))).setC (p := ⟨w.heap.size + 1, 2, none⟩) hneF (.slice fva (finL M M.final.length).length fvc)).setC (p := ⟨w.heap.size + 1, 3, none⟩) hneF (.slice ava (arcL M M.arcs.length).length avc)
            exact ⟨_, ⟨(numK M k : Nat), numI M M.start, finL M M.final.length, arcL M M.arcs.length⟩, 0, rfl, ⟨fva, fvc, ava, avc, rfl, (by show (finL M M.final.length).length ≤ _; unfold maxLen; omega), (by show (arcL M M.arcs.length).length ≤ _; unfold maxLen; omega), hrow2.more (by simp), hrow1.more (by simp)⟩, hbs, fun h => absurd Hv.out h, fun _ => ⟨rfl, HF5.out.2.2.1.symm⟩, fun x0 x1 p nn c r e => by
             simp only [Value.agg.injEq, Array.mk.injEq, List.cons.injEq, Value.slice.injEq] at e
             have := (HF5.out.2.1.lt p.block (by rw [e.2.2.1.1]; rfl)).1
             omega⟩
end Go.Proofs.YtfihjpffjdnahaaGreatDoor
