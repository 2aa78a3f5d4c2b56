/- BM · BF -/
import Derived.Test.YthachfkcgdfdfaaGreatDoorP21
import Derived.Test.YthachfkcgdfdfaaGreatDoorShelf
import Derived.Laws.OwnMore
/- Walks: the machines of a bridge that lead to its base script (bridge.Machine). -/
namespace Go.Proofs.YthachfkcgdfdfaaGreatDoor
open Go.RowKit Classical

/-- A machine is stored into a variable that held the zero machine. -/
theorem mach_into {w : World} {b : Nat} {t : TypeId} {B : Nat} {M : Mach} {fa aa : Option Addr} {fc ac : Nat} (hB : Blk w b #[.int .i64 0, .int .i64 0, .slice none 0 0, .slice none 0 0] t)
  (hm : MachAt w B (.agg #[.int .i64 M.states, .int .i64 M.start, .slice fa M.final.length fc, .slice aa M.arcs.length ac]) M) (hf : ∀ s ∈ M.final, s ≠ 0) {W : World}
  (hW : W = (((w.setCell ⟨b, 0, none⟩ (.int .i64 M.states)).setCell ⟨b, 1, none⟩ (.int .i64 M.start)).setCell ⟨b, 2, none⟩ (.slice fa M.final.length fc)).setCell ⟨b, 3, none⟩ (.slice aa M.arcs.length ac)) :
  Blk W b #[.int .i64 M.states, .int .i64 M.start, .slice fa M.final.length fc, .slice aa M.arcs.length ac] t ∧ MachAt W B (.agg #[.int .i64 M.states, .int .i64 M.start, .slice fa M.final.length fc, .slice aa M.arcs.length ac]) M := by
 subst hW
 refine ⟨?_, ?_⟩
 ·have := (((hB.set_ 0 (.int .i64 M.states)).set_ 1 (.int .i64 M.start)).set_ 2 (.slice fa M.final.length fc)).set_ 3 (.slice aa M.arcs.length ac)
  simpa using this
 ·obtain ⟨fa', fc', aa', ac', e, h1, h2, h3, h4⟩ := hm
  simp only [Value.agg.injEq, Array.mk.injEq, List.cons.injEq, and_true, Value.slice.injEq, true_and] at e
  obtain ⟨⟨rfl, rfl⟩, rfl, rfl⟩ := e
  have k1 : ∀ x o, fa = some ⟨x, o, none⟩ → 0 < (nums M.final).length → x ≠ b := by
   rintro x o e hn rfl
   obtain ⟨x', o', e', _, hc⟩ := h3 hn
   rw [e] at e'
   obtain ⟨rfl, rfl⟩ : x = x' ∧ o = o' := by simpa using e'
   have hn' : 0 < M.final.length := by simpa [nums] using hn
   have c0 := hc 0 (.int .i64 M.final[0]) (by simp [nums, hn'])
   have hne := hf _ (List.getElem_mem hn')
   rw [Nat.add_zero, hB.cell] at c0
   have ho : o < 4 := by have := (Array.getElem?_eq_some_iff.1 c0).1; simpa using this
   match o, ho with
   | 0, _ => simp at c0; exact hne c0.symm
   | 1, _ => simp at c0; exact hne c0.symm
   | 2, _ => simp at c0
   | 3, _ => simp at c0
  have k2 : ∀ x o, aa = some ⟨x, o, none⟩ → 0 < (flat M.arcs).length → x ≠ b := fun x o e hn => row_arc_ne h4 hB hn _ e
  refine ⟨fa, fc, aa, ac, rfl, h1, h2, ?_, ?_⟩
  ·intro hn
   obtain ⟨x, o, e, hx, hc⟩ := h3 hn
   refine ⟨x, o, e, hx, fun i y hy => ?_⟩
   have hne := k1 x o e hn
   rw [World.cell?_setCell_other _ _ _ _ (fun q => hne (by rw [Addr.mk.injEq] at q; exact q.1.symm)), World.cell?_setCell_other _ _ _ _ (fun q => hne (by rw [Addr.mk.injEq] at q; exact q.1.symm)), World.cell?_setCell_other _ _ _ _ (fun q => hne (by rw [Addr.mk.injEq] at q; exact q.1.symm)), World.cell?_setCell_other _ _ _ _ (fun q => hne (by rw [Addr.mk.injEq] at q; exact q.1.symm))]
   exact hc i y hy
  ·intro hn
   obtain ⟨x, o, e, hx, hc⟩ := h4 hn
   refine ⟨x, o, e, hx, fun i y hy => ?_⟩
   have hne := k2 x o e hn
   rw [World.cell?_setCell_other _ _ _ _ (fun q => hne (by rw [Addr.mk.injEq] at q; exact q.1.symm)), World.cell?_setCell_other _ _ _ _ (fun q => hne (by rw [Addr.mk.injEq] at q; exact q.1.symm)), World.cell?_setCell_other _ _ _ _ (fun q => hne (by rw [Addr.mk.injEq] at q; exact q.1.symm)), World.cell?_setCell_other _ _ _ _ (fun q => hne (by rw [Addr.mk.injEq] at q; exact q.1.symm))]
   exact hc i y hy
theorem set4_far (w : World) (b : Nat) (u0 u1 u2 u3 : Value) (g i : Nat) (hg : g ≠ b) : ((((w.setCell ⟨b, 0, none⟩ u0).setCell ⟨b, 1, none⟩ u1).setCell ⟨b, 2, none⟩ u2).setCell ⟨b, 3, none⟩ u3).cell? ⟨g, i, none⟩ = w.cell? ⟨g, i, none⟩ := by
 have k : ∀ (w : World) (o : Nat) (u : Value), (w.setCell ⟨b, o, none⟩ u).cell? ⟨g, i, none⟩ = w.cell? ⟨g, i, none⟩ := fun w o u =>
  World.cell?_setCell_other w _ _ u (fun q => hg (by rw [Addr.mk.injEq] at q; exact q.1.symm))
 rw [k, k, k, k]
theorem MadeOf.final {b : Brid} {i j : Nat} {M : Mach} (h : MadeOf b i j M) : ∀ s ∈ M.final, s ≠ 0 := by
 obtain ⟨A, _, h⟩ := h
 rcases h with ⟨_, h⟩ | ⟨_, r, _, h⟩ <;> rw [h.final] <;> simp
theorem WaysAt.more {w : World} {B B' : Nat} {b : Brid} {l : List Ruls} {es : List (Value × Value)} (h : WaysAt w B b l es) (hB : B ≤ B') : WaysAt w B' b l es :=
 ⟨h.1, fun m r p hr hp => by
  obtain ⟨i, j, A, A', h1, h2, h3, h4⟩ := h.2 m r p hr hp
  exact ⟨i, j, A, A', h1, h2, h3, h4.more hB⟩⟩
def BMadePost (b : Brid) (i j : Nat) (w : World) (e : Ending) (w' : World) : Prop :=
 ∃ v M, e = .returned (.tuple #[v, .int .i64 0]) ∧ MachAt w' w'.heap.size v M ∧ MadeOf b i j M ∧ Below w.heap.size w w'

set_option maxRecDepth 100000 in
set_option maxHeartbeats 2000000 in
theorem made_one (b : Brid) (i j : Nat) (Bb Bw mb : Nat) (a : Option Addr) (c : Nat) (es : List (Value × Value)) (w : World) (hv : ValidB b) (hb0 : w.cell? ⟨Bb, 0, none⟩ = some (.slice a b.scripts.length c)) (hBb : Bb < w.heap.size) (hA : AlphsAt w w.heap.size a b.scripts)
  (hw : w.cell? ⟨Bw, 0, none⟩ = some (.map (some mb))) (hBw : Bw < w.heap.size) (hM : MapIs w mb OkTT es) (hway : WaysAt w w.heap.size b b.rules es) (hi : i < b.scripts.length) (hj : j < b.scripts.length) (hrule : i ≠ j → ∃ r, RuleIn b i j r) :
  Calls Tryz.prog 96 #[.int .i64 i, .int .i64 j, .pointer (some ⟨Bb, 0, none⟩), .pointer (some ⟨Bw, 0, none⟩)] w (BMadePost b i j w) := by
 obtain ⟨A, hAi⟩ : ∃ A, b.scripts[i]? = some A := ⟨_, List.getElem?_eq_getElem hi⟩
 obtain ⟨A', hAj⟩ : ∃ A, b.scripts[j]? = some A := ⟨_, List.getElem?_eq_getElem hj⟩
 obtain ⟨W0, hW0⟩ : ∃ W0 : World, W0 = w.alloc (.cells #[.int .i64 0, .int .i64 0, .slice none 0 0, .slice none 0 0] 96) := ⟨_, rfl⟩
 have hw0 : Below w.heap.size w W0 := by rw [hW0]; exact (Below.refl _ _).alloc (Nat.le_refl _) _
 have hs0 : W0.heap.size = w.heap.size + 1 := by rw [hW0]; simp
 have hR : Blk W0 w.heap.size #[.int .i64 0, .int .i64 0, .slice none 0 0, .slice none 0 0] 96 := by rw [hW0]; exact Blk.new _ _ _
 have b0 : W0.cell? ⟨Bb, 0, none⟩ = some (.slice a b.scripts.length c) := (hw0.cell (p := ⟨Bb, 0, none⟩) hBb).trans hb0
 have bw0 : W0.cell? ⟨Bw, 0, none⟩ = some (.map (some mb)) := (hw0.cell (p := ⟨Bw, 0, none⟩) hBw).trans hw
 have hA0 := hA.below hw0 (Nat.le_refl _)
 obtain ⟨g, o, la, lc, sa, sc, ea, hg, p0, p1, p2, hAt⟩ := hA0.get hAi
 obtain ⟨g2, o2, la2, lc2, sa2, sc2, ea2, hg2, q0, q1, q2, hAt2⟩ := hA0.get hAj
 subst ea
 obtain ⟨rfl, rfl⟩ : g = g2 ∧ o = o2 := by simpa using ea2
 by_cases hij : i = j
 ·have d1 : ((i : Int) == (j : Int)) = true := by rw [hij]; simp
  have hC := Lib.hid (Copy_any A _ W0 (hAt.more (by omega)))
  have Hij := Lib.hid (And.intro hij (And.intro hAi hv))
  clear hij hv hAt hAt2 hA hA0 hM hway hrule hAi hAj
  go_enter Tryz.func96, Tryz.ntmps96
  go_upto_region 1 with (fail)
  rw [← hW0]
  clear hW0
  go_wp2_with fail
  refine hC.out.mono ?_
  rintro e w1 ⟨v1, M, err, rfl, hm1, hb1, hc1⟩
  have hval := Hij.out.2.2.scr.alph A (List.mem_of_getElem? Hij.out.2.1)
  rcases hc1 with ⟨n, _⟩ | ⟨_, rfl, hcp⟩
  ·exact absurd hval n
  have hM1 := hm1
  obtain ⟨fa, fc, aa, ac, rfl, -, -, -, -⟩ := hm1
  have hmade : MadeOf b i j M := ⟨A, Hij.out.2.1, .inl ⟨Hij.out.1, hcp⟩⟩
  have hR1 := hR.below hb1 (by omega)
  have HI := Lib.hid (fun W hW => mach_into hR1 hM1 hmade.final (W := W) hW)
  have Hmd := Lib.hid hmade
  have r0 : w1.cell? ⟨w.heap.size, 0, none⟩ = some (.int .i64 0) := hR1.cell 0
  have r1 : w1.cell? ⟨w.heap.size, 1, none⟩ = some (.int .i64 0) := hR1.cell 1
  have r2 : w1.cell? ⟨w.heap.size, 2, none⟩ = some (.slice none 0 0) := hR1.cell 2
  have r3 : w1.cell? ⟨w.heap.size, 3, none⟩ = some (.slice none 0 0) := hR1.cell 3
  have f0 := hR1.frozen 0
  have f1 := hR1.frozen 1
  have f2 := hR1.frozen 2
  have f3 := hR1.frozen 3
  have hbw := hw0.trans (hb1.mono (by omega))
  clear hR1 hM1 hcp hmade
  go_wp2_with fail
  obtain ⟨hk, hm⟩ := HI.out _ rfl
  have m0 := hk.cell 0
  have m1 := hk.cell 1
  have m2 := hk.cell 2
  have m3 := hk.cell 3
  simp only [List.getElem?_toArray, List.getElem?_cons_zero, List.getElem?_cons_succ] at m0 m1 m2 m3
  refine bodyPost_ret (v := .tuple #[.agg #[.int .i64 M.states, .int .i64 M.start, .slice fa M.final.length fc, .slice aa M.arcs.length ac], .int .i64 0]) (by simp [results, Tryz.results96, go_sem, m0, m1, m2, m3]) rfl ?_
  exact ⟨_, M, rfl, hm.more (by simp), Hmd.out, (((hbw.setCell (p := ⟨w.heap.size, 0, none⟩) (Nat.le_refl _) _).setCell (p := ⟨w.heap.size, 1, none⟩) (Nat.le_refl _) _).setCell (p := ⟨w.heap.size, 2, none⟩) (Nat.le_refl _) _).setCell (p := ⟨w.heap.size, 3, none⟩) (Nat.le_refl _) _⟩
 ·have d1 : ((i : Int) == (j : Int)) = false := by rw [beq_eq_false_iff_ne]; omega
  obtain ⟨r, hr⟩ := hrule hij
  obtain ⟨B1, B2, hB1, hB2⟩ : ∃ B1 B2, b.no r.src i B1 ∧ b.no r.dst j B2 := hr.2
  obtain ⟨m, hm⟩ := List.getElem?_of_mem hr.1
  have hml : m < es.length := by have := hway.1; have := (List.getElem?_eq_some_iff.1 hm).1; omega
  obtain ⟨i', j', B3, B4, k1, k2, k3, hrv⟩ := hway.2 m r _ hm (List.getElem?_eq_getElem hml)
  obtain ⟨rfl, _⟩ := Brid.no_uniq hv.scr.names hB1 k1
  obtain ⟨rfl, _⟩ := Brid.no_uniq hv.scr.names hB2 k2
  have hmem : (ttV ((i : Int), (j : Int)), es[m].2) ∈ es := by rw [← k3]; exact List.getElem_mem hml
  have hrv0 := (hrv.below hw0 (Nat.le_refl _)).more (show w.heap.size ≤ W0.heap.size by omega)
  obtain ⟨pv, hpv⟩ : ∃ pv, es[m].2 = pv := ⟨_, rfl⟩
  rw [hpv] at hmem hrv0
  have hR0 := hrv0
  obtain ⟨ra, rc, rfl, -, -, -, -, -⟩ := hrv0
  have hlk0 := MapIs.look_some (hM.below hw0 hM.lt).drew keyTT Tryz.underlying137 hmem false
  rw [if_neg (by simp)] at hlk0
  unfold ttV at hlk0
  obtain ⟨hne, hval⟩ := hv.rule_valid hr hAi hAj
  have hd := (Below.refl W0.heap.size W0).drew
  have hC := Lib.hid (Compile_prog r A A' _ _ _ W0.drew (hR0.below hd (Nat.le_refl _)) ((hAt.more (B' := W0.heap.size) (by omega)).below hd (Nat.le_refl _)) ((hAt2.more (B' := W0.heap.size) (by omega)).below hd (Nat.le_refl _)))
  have Hr := Lib.hid (And.intro hij (And.intro hAi (And.intro hr hval)))
  clear hij hv hAt hAt2 hA hA0 hM hway hrule hAi hAj hR0 hmem hpv hrv hB1 hB2 hm hml k1 k2 k3 hr hval hne hd
  go_enter Tryz.func96, Tryz.ntmps96
  go_upto_region 1 with (fail)
  rw [← hW0]
  clear hW0
  go_wp2_with fail
  have HS := Lib.hid (fun (wx : World) (hb9 : Below W0.heap.size W0 wx) => (show (wx.cell? ⟨Bb, 0, none⟩ = some (.slice (some ⟨g, o, none⟩) b.scripts.length c) ∧ wx.cell? ⟨Bw, 0, none⟩ = some (.map (some mb)) ∧
    wx.cell? ⟨g, o + i * 3, none⟩ = some (.string A.name) ∧ wx.cell? ⟨g, o + i * 3 + 1, none⟩ = some (.slice la A.letters.length lc) ∧ wx.cell? ⟨g, o + i * 3 + 2, none⟩ = some (.slice sa A.small.length sc) ∧
    wx.cell? ⟨g, o + j * 3, none⟩ = some (.string A'.name) ∧ wx.cell? ⟨g, o + j * 3 + 1, none⟩ = some (.slice la2 A'.letters.length lc2) ∧ wx.cell? ⟨g, o + j * 3 + 2, none⟩ = some (.slice sa2 A'.small.length sc2)) from by
   have k : ∀ (g i : Nat), g < W0.heap.size → wx.cell? ⟨g, i, none⟩ = W0.cell? ⟨g, i, none⟩ := fun g i hg => hb9.cell (p := ⟨g, i, none⟩) hg
   exact ⟨(k _ _ (by omega)).trans b0, (k _ _ (by omega)).trans bw0, (k _ _ (by omega)).trans p0, (k _ _ (by omega)).trans p1, (k _ _ (by omega)).trans p2, (k _ _ (by omega)).trans q0, (k _ _ (by omega)).trans q1, (k _ _ (by omega)).trans q2⟩))
  have HT := Lib.hid (fun (wx : World) (h9 : (wx.cell? ⟨Bb, 0, none⟩ = some (.slice (some ⟨g, o, none⟩) b.scripts.length c) ∧ wx.cell? ⟨Bw, 0, none⟩ = some (.map (some mb)) ∧
    wx.cell? ⟨g, o + i * 3, none⟩ = some (.string A.name) ∧ wx.cell? ⟨g, o + i * 3 + 1, none⟩ = some (.slice la A.letters.length lc) ∧ wx.cell? ⟨g, o + i * 3 + 2, none⟩ = some (.slice sa A.small.length sc) ∧
    wx.cell? ⟨g, o + j * 3, none⟩ = some (.string A'.name) ∧ wx.cell? ⟨g, o + j * 3 + 1, none⟩ = some (.slice la2 A'.letters.length lc2) ∧ wx.cell? ⟨g, o + j * 3 + 2, none⟩ = some (.slice sa2 A'.small.length sc2))) (u0 u1 u2 u3 : Value) => (show (((((wx.setCell ⟨w.heap.size, 0, none⟩ u0).setCell ⟨w.heap.size, 1, none⟩ u1).setCell ⟨w.heap.size, 2, none⟩ u2).setCell ⟨w.heap.size, 3, none⟩ u3).cell? ⟨Bb, 0, none⟩ = some (.slice (some ⟨g, o, none⟩) b.scripts.length c) ∧ ((((wx.setCell ⟨w.heap.size, 0, none⟩ u0).setCell ⟨w.heap.size, 1, none⟩ u1).setCell ⟨w.heap.size, 2, none⟩ u2).setCell ⟨w.heap.size, 3, none⟩ u3).cell? ⟨Bw, 0, none⟩ = some (.map (some mb)) ∧
    ((((wx.setCell ⟨w.heap.size, 0, none⟩ u0).setCell ⟨w.heap.size, 1, none⟩ u1).setCell ⟨w.heap.size, 2, none⟩ u2).setCell ⟨w.heap.size, 3, none⟩ u3).cell? ⟨g, o + i * 3, none⟩ = some (.string A.name) ∧ ((((wx.setCell ⟨w.heap.size, 0, none⟩ u0).setCell ⟨w.heap.size, 1, none⟩ u1).setCell ⟨w.heap.size, 2, none⟩ u2).setCell ⟨w.heap.size, 3, none⟩ u3).cell? ⟨g, o + i * 3 + 1, none⟩ = some (.slice la A.letters.length lc) ∧ ((((wx.setCell ⟨w.heap.size, 0, none⟩ u0).setCell ⟨w.heap.size, 1, none⟩ u1).setCell ⟨w.heap.size, 2, none⟩ u2).setCell ⟨w.heap.size, 3, none⟩ u3).cell? ⟨g, o + i * 3 + 2, none⟩ = some (.slice sa A.small.length sc) ∧
    ((((wx.setCell ⟨w.heap.size, 0, none⟩ u0).setCell ⟨w.heap.size, 1, none⟩ u1).setCell ⟨w.heap.size, 2, none⟩ u2).setCell ⟨w.heap.size, 3, none⟩ u3).cell? ⟨g, o + j * 3, none⟩ = some (.string A'.name) ∧ ((((wx.setCell ⟨w.heap.size, 0, none⟩ u0).setCell ⟨w.heap.size, 1, none⟩ u1).setCell ⟨w.heap.size, 2, none⟩ u2).setCell ⟨w.heap.size, 3, none⟩ u3).cell? ⟨g, o + j * 3 + 1, none⟩ = some (.slice la2 A'.letters.length lc2) ∧ ((((wx.setCell ⟨w.heap.size, 0, none⟩ u0).setCell ⟨w.heap.size, 1, none⟩ u1).setCell ⟨w.heap.size, 2, none⟩ u2).setCell ⟨w.heap.size, 3, none⟩ u3).cell? ⟨g, o + j * 3 + 2, none⟩ = some (.slice sa2 A'.small.length sc2)) from by
   have k := set4_far wx w.heap.size u0 u1 u2 u3
   obtain ⟨y0, y1, y2, y3, y4, y5, y6, y7⟩ := h9
   exact ⟨(k _ _ (by omega)).trans y0, (k _ _ (by omega)).trans y1, (k _ _ (by omega)).trans y2, (k _ _ (by omega)).trans y3, (k _ _ (by omega)).trans y4, (k _ _ (by omega)).trans y5, (k _ _ (by omega)).trans y6, (k _ _ (by omega)).trans y7⟩))
  go_region_held3 (fun w' => w'.cell? ⟨Bb, 0, none⟩ = some (.slice (some ⟨g, o, none⟩) b.scripts.length c) ∧ w'.cell? ⟨Bw, 0, none⟩ = some (.map (some mb)) ∧
    w'.cell? ⟨g, o + i * 3, none⟩ = some (.string A.name) ∧ w'.cell? ⟨g, o + i * 3 + 1, none⟩ = some (.slice la A.letters.length lc) ∧ w'.cell? ⟨g, o + i * 3 + 2, none⟩ = some (.slice sa A.small.length sc) ∧
    w'.cell? ⟨g, o + j * 3, none⟩ = some (.string A'.name) ∧ w'.cell? ⟨g, o + j * 3 + 1, none⟩ = some (.slice la2 A'.letters.length lc2) ∧ w'.cell? ⟨g, o + j * 3 + 2, none⟩ = some (.slice sa2 A'.small.length sc2))
   (first | exact ⟨b0, bw0, p0, p1, p2, q0, q1, q2⟩ | exact hs9 | exact HT.out _ hs9 _ _ _ _ | go_keep)
   (first | (go_at_call 98; refine hC.out.mono ?_; rintro e w1 ⟨v1, M, err, rfl, hm1, hb1, -, hok⟩; have hb1w := (Below.refl W0.heap.size W0).drew.trans (hb1.mono (Nat.le_refl _)); have hs9 := HS.out w1 hb1w; have hM1 := hm1; obtain ⟨fa, fc, aa, ac, rfl, -, -, -, -⟩ := hm1; have hR1 := hR.below hb1w (by omega); have r0 : w1.cell? ⟨w.heap.size, 0, none⟩ = some (.int .i64 0) := hR1.cell 0; have r1 : w1.cell? ⟨w.heap.size, 1, none⟩ = some (.int .i64 0) := hR1.cell 1; have r2 : w1.cell? ⟨w.heap.size, 2, none⟩ = some (.slice none 0 0) := hR1.cell 2; have r3 : w1.cell? ⟨w.heap.size, 3, none⟩ = some (.slice none 0 0) := hR1.cell 3; have f0 := hR1.frozen 0; have f1 := hR1.frozen 1; have f2 := hR1.frozen 2; have f3 := hR1.frozen 3; have HR1 := Lib.hid hR1; clear hR1) | fail)
  obtain ⟨rfl, hcm⟩ := hok Hr.out.2.2.2
  have hmade : MadeOf b i j M := ⟨A, Hr.out.2.1, .inr ⟨Hr.out.1, r, Hr.out.2.2.1, hcm⟩⟩
  have HI := Lib.hid (fun W hW => mach_into HR1.out hM1 hmade.final (W := W) hW)
  have Hmd := Lib.hid hmade
  have hbw := hw0.trans (hb1w.mono (by omega))
  clear hM1 hcm hmade hok
  go_wp2_with fail
  obtain ⟨hk, hm⟩ := HI.out _ rfl
  have m0 := hk.cell 0
  have m1 := hk.cell 1
  have m2 := hk.cell 2
  have m3 := hk.cell 3
  simp only [List.getElem?_toArray, List.getElem?_cons_zero, List.getElem?_cons_succ] at m0 m1 m2 m3
  refine bodyPost_ret (v := .tuple #[.agg #[.int .i64 M.states, .int .i64 M.start, .slice fa M.final.length fc, .slice aa M.arcs.length ac], .int .i64 0]) (by simp [results, Tryz.results96, go_sem, m0, m1, m2, m3]) rfl ?_
  exact ⟨_, M, rfl, hm.more (by simp), Hmd.out, (((hbw.setCell (p := ⟨w.heap.size, 0, none⟩) (Nat.le_refl _) _).setCell (p := ⟨w.heap.size, 1, none⟩) (Nat.le_refl _) _).setCell (p := ⟨w.heap.size, 2, none⟩) (Nat.le_refl _) _).setCell (p := ⟨w.heap.size, 3, none⟩) (Nat.le_refl _) _⟩
end Go.Proofs.YthachfkcgdfdfaaGreatDoor
/- Walks: alphabet.Join of letters, alphabet.Fold. -/
namespace Go.Proofs.YthachfkcgdfdfaaGreatDoor
open Go.RowKit Go.Shelf Classical

theorem bWrite (B b : Nat) (cs : List Value) (s : ByteArray) (w : World) (h : Lib.IsBuilder 114 5 B b cs w) (hlen : cs.length + s.size ≤ 140737488355328) (hBw : B ≤ w.heap.size) :
  Calls Tryz.prog 67 #[.pointer (some ⟨b, 0, none⟩), .string s] w fun e w' => e = .returned (.tuple #[.int .i64 s.size, .nilIface]) ∧ (Lib.BuilderAt 114 5 B b (.pointer (some ⟨b, 0, none⟩)) (cs ++ Lib.strCells s) w' ∧ Below B w w') :=
 Any.Builder_WriteString { Tryz.lays156 with } Tryz.Builder_Extra_156 B b cs s w h hlen hBw
theorem txt_len {A : Alph} (h : Valid10 A) (z : Int) : (txt A.bls z).length ≤ 3 := by
 unfold txt
 cases e : A.bls[z.toNat]? with
 | none => simp
 | some l => exact ((told_of h).len l (List.mem_of_getElem? e)).2
theorem byteCells_append (l m : List UInt8) : Lib.byteCells (l ++ m) = Lib.byteCells l ++ Lib.byteCells m := by simp [Lib.byteCells]
theorem byteCells_length (l : List UInt8) : (Lib.byteCells l).length = l.length := by simp [Lib.byteCells]
set_option maxRecDepth 100000 in
set_option maxHeartbeats 2000000 in
theorem Join_ok (A : Alph) (v : Value) (zs : List Int) (za : Option Addr) (zc : Nat) (w : World) (hA : AlphAt w w.heap.size v A) (hz : RowAt w w.heap.size za (nums zs)) (hv : Valid10 A) (h1 : 1 ≤ zs.length) (h24 : zs.length ≤ 24) (hin : ∀ z ∈ zs, 0 ≤ z ∧ z < A.letters.length) :
  Calls Tryz.prog 95 #[v, .slice za zs.length zc] w fun e w' => e = .returned (.tuple #[.string (bs (zs.flatMap (txt A.bls))), .int .i64 0]) ∧ Below w.heap.size w w' := by
 have hA0 := hA
 obtain ⟨la, lc, sa, sc, rfl, hn, hl1, hs1, hls, hl, hsm⟩ := hA
 obtain ⟨W0, hW0⟩ : ∃ W0 : World, W0 = w.alloc (.cells #[.string A.name, .slice la A.letters.length lc, .slice sa A.small.length sc] 89) := ⟨_, rfl⟩
 have hw0 : Below w.heap.size w W0 := by rw [hW0]; exact (Below.refl _ _).alloc (Nat.le_refl _) _
 have hs0 : W0.heap.size = w.heap.size + 1 := by rw [hW0]; simp
 have hB : Blk W0 w.heap.size #[.string A.name, .slice la A.letters.length lc, .slice sa A.small.length sc] 89 := by rw [hW0]; exact Blk.new _ _ _
 have hA1 : AlphAt W0 W0.heap.size (.agg #[.string A.name, .slice la A.letters.length lc, .slice sa A.small.length sc]) A := (hA0.below hw0 (Nat.le_refl _)).more (by omega)
 have hq := AValid_any A _ W0 hA1
 rw [decide_eq_true hv] at hq
 have HQ := Lib.hid hq
 have Hv := Lib.hid hv
 have Hin := Lib.hid hin
 clear hq hA0 hA1 hv hin
 go_enter Tryz.func95, Tryz.ntmps95
 go_wp2_with fail
 rw [← hW0]
 refine HQ.out.mono ?_
 rintro e w1 ⟨rfl, hb1⟩
 have hb1w := hw0.trans (hb1.mono (by omega))
 have hs1w := hb1.size
 go_wp2_with fail
 obtain ⟨W2, hW2⟩ : ∃ W2 : World, W2 = w1.alloc (.cells #[.pointer none, .slice none 0 0] 114) := ⟨_, rfl⟩
 have hI2 : Lib.IsBuilder 114 5 w1.heap.size w1.heap.size [] W2 := by rw [hW2]; exact Lib.fresh_isBuilder _ _ _
 have hb2 : Below w1.heap.size w1 W2 := by rw [hW2]; exact (Below.refl _ _).alloc (Nat.le_refl _) _
 have hs2 : W2.heap.size = w1.heap.size + 1 := by rw [hW2]; simp
 rw [← hW2]
 have HK := Lib.hid (fun (wr : World) (hbr : Below w1.heap.size W2 wr) => have hx := hb2.trans hbr; have hbw := hb1w.trans (hx.mono (by omega)); (show wr.cell? ⟨w.heap.size, 1, none⟩ = some (.slice la A.letters.length lc) ∧ RowAt wr w.heap.size la (strs A.letters) ∧ RowAt wr w.heap.size za (nums zs) ∧ Below w.heap.size w wr from
  ⟨((hB.below hb1 (by omega)).below hx (by omega)).cell 1, hl.below hbw (Nat.le_refl _), hz.below hbw (Nat.le_refl _), hbw⟩))
 have HI2 := Lib.hid hI2
 clear hW0 hW2 hI2 hB hl hz hsm
 go_loopw [24] (fun i wr => ∃ k : Nat, k ≤ zs.length ∧ i = .int .i64 k ∧ Lib.IsBuilder 114 5 w1.heap.size w1.heap.size (Lib.byteCells ((zs.take k).flatMap (txt A.bls))) wr ∧ Below w1.heap.size W2 wr) (fun i _ => zs.length - (intOf i).toNat)
 case atStart => exact ⟨0, Nat.zero_le _, rfl, HI2.out, Below.refl _ _⟩
 case round =>
  obtain ⟨k, hk, rfl, hI, hbr⟩ := hrel
  have HI := Lib.hid hI
  have hsr := hbr.size
  obtain ⟨x1, hlr, hzr, hbw⟩ := HK.out wr hbr
  clear hI
  by_cases hkl : k < zs.length
  ·obtain ⟨g, o, rfl, hg, hc⟩ := hzr.nums (by omega)
   have c0 := hc k hkl
   obtain ⟨z, hze⟩ : ∃ z, zs[k] = z := ⟨_, rfl⟩
   rw [hze] at c0
   obtain ⟨hz0, hzl⟩ := Hin.out z (by rw [← hze]; exact List.getElem_mem hkl)
   obtain ⟨g2, o2, rfl, hg2, hc2⟩ := hlr.strs (by omega)
   obtain ⟨m, rfl⟩ : ∃ m : Nat, z = (m : Int) := ⟨z.toNat, by omega⟩
   have hml : m < A.letters.length := by omega
   have c1 := hc2 m hml
   obtain ⟨s, hse⟩ : ∃ s, A.letters[m] = s := ⟨_, rfl⟩
   rw [hse] at c1
   have htx : txt A.bls (m : Int) = bl s := by
    unfold txt Alph.bls
    rw [Int.toNat_natCast, List.getElem?_map, List.getElem?_eq_getElem hml, hse]
    rfl
   have htk : (zs.take (k + 1)).flatMap (txt A.bls) = (zs.take k).flatMap (txt A.bls) ++ bl s := by
    rw [List.take_succ_eq_append_getElem hkl, List.flatMap_append, hze]; simp [htx]
   have hlen : ((zs.take k).flatMap (txt A.bls)).length ≤ 1000 := by
    rw [List.length_flatMap]
    have : ∀ l : List Int, (l.map (fun z => (txt A.bls z).length)).sum ≤ 3 * l.length := fun l => by
     induction l with
     | nil => simp
     | cons z l ih => have := txt_len Hv.out z; rw [List.map_cons, List.sum_cons, List.length_cons]; omega
    have := this (zs.take k)
    rw [List.length_take] at this
    omega
   have hs3 : s.size ≤ 3 := by rw [← bl_length, ← htx]; exact txt_len Hv.out _
   have HW := Lib.hid (bWrite w1.heap.size w1.heap.size _ s wr HI.out (by rw [byteCells_length]; omega) (by omega))
   have Htk := Lib.hid htk
   clear hc hc2 htx hlen hs3 htk hze hse
   go_wp2_with (go_at_call 67; refine HW.out.mono ?_; rintro e w3 ⟨rfl, h3, hb3⟩)
   exact ⟨⟨k + 1, by omega, by go_num, by rw [Htk.out, byteCells_append]; exact .inr h3, hbr.trans hb3⟩, by simp [intOf]; omega⟩
  ·obtain rfl : k = zs.length := by omega
   have hS := Tryz.Builder_String_any w1.heap.size w1.heap.size ((zs.take zs.length).flatMap (txt A.bls)) wr HI.out (by omega)
   rw [List.take_length] at hS
   have HS := Lib.hid hS
   clear hS
   go_wp2_with (go_at_call 68; refine HS.out.mono ?_; rintro e w3 ⟨rfl, hb3⟩)
   go_ret2
   exact ⟨rfl, hbw.trans (hb3.mono (by have := hb1w.size; omega))⟩

def FoldPost (A : Alph) (s : ByteArray) (w : World) (e : Ending) (w' : World) : Prop :=
 ∃ (t : ByteArray) (err : Int), e = .returned (.tuple #[.string t, .int .i64 err]) ∧ FoldOf A s t err ∧ Below w.heap.size w w'
noncomputable def smalls' (A : Alph) (z : Int) : Int := A.small[z.toNat]?.getD 0
theorem foldL_map (A : Alph) (t : List UInt8) : foldL A t = ((rdL A.bls t).map (smalls' A)).flatMap (txt A.bls) := by
 unfold foldL smalls'
 rw [List.flatMap_map]
/-- The letters of a word, and their small ones. -/
theorem rd_in {A : Alph} (h : Valid10 A) {t : List UInt8} (ht : (readL A.bls t).err = 0) : 1 ≤ (rdL A.bls t).length ∧ (rdL A.bls t).length ≤ 24 ∧ (∀ z ∈ rdL A.bls t, 0 ≤ z ∧ z < A.letters.length) ∧ ∀ z ∈ (rdL A.bls t).map (smalls' A), 0 ≤ z ∧ z < A.letters.length := by
 obtain ⟨ls, q1, q2, _, q4, q5⟩ := read_parts (told_of h) ht
 have hl : A.bls.length = A.letters.length := by unfold Alph.bls; rw [List.length_map]
 have hin : ∀ z ∈ rdL A.bls t, 0 ≤ z ∧ z < A.letters.length := fun z hz => by
  rw [q4] at hz
  obtain ⟨l, hl', rfl⟩ := List.mem_map.1 hz
  have := List.idxOf_lt_length_of_mem (q2 l hl')
  omega
 have hlen : (rdL A.bls t).length = ls.length := by rw [q4]; unfold ids; rw [List.length_map]
 refine ⟨by rw [hlen]; exact List.length_pos_iff.2 q1, by omega, hin, fun z hz => ?_⟩
 obtain ⟨y, hy, rfl⟩ := List.mem_map.1 hz
 obtain ⟨y0, y1⟩ := hin y hy
 obtain ⟨f1, f2, f3, f4, f5, f6, f7, f8⟩ := h.1
 have hlt : y.toNat < A.small.length := by omega
 unfold smalls'
 rw [List.getElem?_eq_getElem hlt]
 exact f6 _ (List.getElem_mem hlt)
set_option maxRecDepth 100000 in
set_option maxHeartbeats 2000000 in
theorem Fold_any (A : Alph) (v : Value) (s : ByteArray) (hs : s.size ≤ maxLen) (w : World) (hA : AlphAt w w.heap.size v A) :
  Calls Tryz.prog 57 #[v, .string s] w (FoldPost A s w) := by
 have hA0 := hA
 obtain ⟨la, lc, sa, sc, rfl, hn, hl1, hs1, hls, hl, hsm⟩ := hA
 obtain ⟨W0, hW0⟩ : ∃ W0 : World, W0 = w.alloc (.cells #[.string A.name, .slice la A.letters.length lc, .slice sa A.small.length sc] 89) := ⟨_, rfl⟩
 have hw0 : Below w.heap.size w W0 := by rw [hW0]; exact (Below.refl _ _).alloc (Nat.le_refl _) _
 have hs0 : W0.heap.size = w.heap.size + 1 := by rw [hW0]; simp
 have hB : Blk W0 w.heap.size #[.string A.name, .slice la A.letters.length lc, .slice sa A.small.length sc] 89 := by rw [hW0]; exact Blk.new _ _ _
 have hA1 : AlphAt W0 W0.heap.size (.agg #[.string A.name, .slice la A.letters.length lc, .slice sa A.small.length sc]) A := (hA0.below hw0 (Nat.le_refl _)).more (by omega)
 have HQ := Lib.hid (Read_any A _ s hs W0 hA1)
 have HK := Lib.hid (fun (wr : World) (hbr : Below W0.heap.size W0 wr) => have hbw := hw0.trans (hbr.mono (by omega)); (show (wr.cell? ⟨w.heap.size, 0, none⟩ = some (.string A.name) ∧ wr.cell? ⟨w.heap.size, 1, none⟩ = some (.slice la A.letters.length lc) ∧ wr.cell? ⟨w.heap.size, 2, none⟩ = some (.slice sa A.small.length sc)) ∧ RowAt wr w.heap.size sa (nums A.small) ∧ AlphAt wr wr.heap.size (.agg #[.string A.name, .slice la A.letters.length lc, .slice sa A.small.length sc]) A ∧ Below w.heap.size w wr from
  have hBr := hB.below hbr (by omega); ⟨⟨hBr.cell 0, hBr.cell 1, hBr.cell 2⟩, hsm.below hbw (Nat.le_refl _), (hA0.below hbw (Nat.le_refl _)).more hbw.size, hbw⟩))
 clear hA0 hA1 hB hl hsm
 go_enter Tryz.func57, Tryz.ntmps57
 go_wp2_with fail
 rw [← hW0]
 refine HQ.out.mono ?_
 rintro e w1 ⟨v1, rfl, hrow, hb1⟩
 have hbw1 := (HK.out w1 hb1).2.2.2
 by_cases hok : Valid10 A ∧ (readL A.bls (bl s)).err = 0
 case neg =>
  have hne : (readA A s).err ≠ 0 := by
   unfold readA
   split
   ·rename_i hv; exact fun e => hok ⟨hv, e⟩
   ·simp
  have d1 : ((readA A s).err != 0) = true := by simpa using hne
  have Hok := Lib.hid hok
  clear hok hne hrow
  go_wp2_with fail
  go_ret2
  exact ⟨_, _, rfl, .inr ⟨Hok.out, rfl, rfl⟩, hbw1⟩
 obtain ⟨hv, hr⟩ := hok
 have e0 : readA A s = readL A.bls (bl s) := by unfold readA; rw [if_pos hv]
 obtain ⟨z1, z24, zin, zin'⟩ := rd_in hv hr
 have hfl := foldL_map A (bl s)
 obtain ⟨zs, hzs⟩ : ∃ zs, rdL A.bls (bl s) = zs := ⟨_, rfl⟩
 have hzs' : (readL A.bls (bl s)).letters = zs := hzs
 rw [hzs] at z1 z24 zin zin' hfl
 rw [e0, hzs'] at hrow
 rw [e0, hr]
 have hrow' := hrow
 obtain ⟨hrl, (⟨_, hnil⟩ | ⟨g, cap, cur, rfl, hg, _⟩)⟩ := hrow
 ·have : zs = [] := by simpa [nums] using hnil
  rw [this] at z1; simp at z1
 have Hv := Lib.hid (And.intro hv (And.intro hr hfl))
 have Hz := Lib.hid (And.intro zin zin')
 have Hrow := Lib.hid hrow'
 clear hv hr e0 hfl hzs hzs' zin zin' hrow' hrl
 go_wp2_with fail
 go_loopw [22] (fun i wr => ∃ k : Nat, k ≤ zs.length ∧ i = .int .i64 k ∧ wr.ownsRow W0.heap.size 3 1 (.slice (some ⟨g, 0, none⟩) zs.length cap) zs.length (nums ((zs.map (smalls' A)).take k ++ zs.drop k)) ∧ Below W0.heap.size W0 wr) (fun i _ => zs.length - (intOf i).toNat)
 case atStart => exact ⟨0, Nat.zero_le _, rfl, by simpa using Hrow.out, hb1⟩
 case round =>
  obtain ⟨k, hk, rfl, hro, hbr⟩ := hrel
  have Hro := Lib.hid hro
  obtain ⟨⟨a0, a1, a2⟩, hsr, hAr, hbwr⟩ := HK.out wr hbr
  by_cases hkl : k < zs.length
  ·obtain ⟨a', c', ea, _, hra⟩ := RowAt.of_own hro
   obtain ⟨ha', hc'⟩ : a' = some ⟨g, 0, none⟩ ∧ c' = cap := by simp at ea; exact ⟨ea.1.symm, ea.2.symm⟩
   subst a' c'
   obtain ⟨b', o', eb, _, hc⟩ := hra (by simp [nums]; omega)
   obtain ⟨hb', ho'⟩ : b' = g ∧ o' = 0 := by simp at eb; exact ⟨eb.1.symm, eb.2.symm⟩
   subst b' o'
   obtain ⟨z, hze⟩ : ∃ z, zs[k] = z := ⟨_, rfl⟩
   have hlk : (nums ((zs.map (smalls' A)).take k ++ zs.drop k))[k]? = some (.int .i64 z) := by
    unfold nums
    rw [List.getElem?_map, List.getElem?_append_right (by simp; omega)]
    simp [List.length_take, Nat.min_eq_left hk, hkl, hze]
   have c0 := hc k _ hlk
   rw [Nat.zero_add] at c0
   obtain ⟨hz0, hzl⟩ := Hz.out.1 z (by rw [← hze]; exact List.getElem_mem hkl)
   obtain ⟨m, rfl⟩ : ∃ m : Nat, z = (m : Int) := ⟨z.toNat, by omega⟩
   have hsl : A.small.length = A.letters.length := Hv.out.1.1.2.2.2.1
   have hml : m < A.small.length := by omega
   obtain ⟨g2, o2, rfl, hg2, hc2⟩ := hsr.nums (by omega)
   have c1 := hc2 m hml
   obtain ⟨y, hye⟩ : ∃ y, A.small[m] = y := ⟨_, rfl⟩
   rw [hye] at c1
   have hfz : wr.frozen? ⟨g, k, none⟩ = false := by
    obtain ⟨_, (⟨e, _⟩ | ⟨g3, cap3, cur3, e, _, hh, _⟩)⟩ := hro
    ·cases e
    ·simp at e; obtain ⟨rfl, _⟩ := e; simp [World.frozen?, hh]
   have hst := (hro.stored k (.int .i64 y)).1
   have hnx : (nums ((zs.map (smalls' A)).take k ++ zs.drop k)).set k (.int .i64 y) = nums ((zs.map (smalls' A)).take (k + 1) ++ zs.drop (k + 1)) := by
    have hy : smalls' A zs[k] = y := by rw [hze]; unfold smalls'; rw [Int.toNat_natCast, List.getElem?_eq_getElem hml, hye]; rfl
    unfold nums
    rw [← List.map_set]
    congr 1
    rw [List.set_append_right _ _ (by simp; omega)]
    have e1 : k - ((zs.map (smalls' A)).take k).length = 0 := by simp; omega
    rw [e1, List.drop_eq_getElem_cons hkl, List.set_cons_zero, List.take_succ_eq_append_getElem (by simpa using hkl), List.getElem_map, hy, List.append_assoc]
    rfl
   rw [hnx] at hst
   have Hst := Lib.hid hst
   have hbs : Below W0.heap.size W0 (wr.setCell ⟨g, k, none⟩ (.int .i64 y)) := hbr.setCell (p := ⟨g, k, none⟩) hg _
   clear hc hc2 hlk hst hnx hro hra hze hye hAr
   go_wp2_with fail
   exact ⟨⟨k + 1, by omega, by go_num, Hst.out, hbs⟩, by simp [intOf]; omega⟩
  ·obtain rfl : k = zs.length := by omega
   have hro2 : wr.ownsRow W0.heap.size 3 1 (.slice (some ⟨g, 0, none⟩) (zs.map (smalls' A)).length cap) (zs.map (smalls' A)).length (nums (zs.map (smalls' A))) := by
    have := Hro.out
    rw [List.drop_length, List.append_nil, List.take_of_length_le (by simp)] at this
    simpa using this
   obtain ⟨a', c', ea, _, hra⟩ := RowAt.of_own hro2
   obtain ⟨ha', hc'⟩ : a' = some ⟨g, 0, none⟩ ∧ c' = cap := by simp at ea; exact ⟨ea.1.symm, ea.2.symm⟩
   subst a' c'
   have hJ := Join_ok A _ (zs.map (smalls' A)) _ cap wr hAr hra Hv.out.1 (by simpa using z1) (by simpa using z24) Hz.out.2
   rw [← Hv.out.2.2, List.length_map] at hJ
   have HJ := Lib.hid hJ
   clear hJ hra hro2 hro ea hAr
   go_wp2_with (go_at_call 95; refine HJ.out.mono ?_; rintro e w3 ⟨rfl, hb3⟩)
   go_ret2
   exact ⟨_, _, rfl, .inl ⟨Hv.out.1, Hv.out.2.1, bl_bs _, rfl⟩, hbwr.trans (hb3.mono hbwr.size)⟩
end Go.Proofs.YthachfkcgdfdfaaGreatDoor
