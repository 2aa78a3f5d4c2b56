/- Walk: machine.Invert. -/
import Derived.Test.YtgaldlecnfekaaaGreatDoorK4
import Derived.Test.YtgaldlecnfekaaaGreatDoorVS
import Derived.Test.YtgaldlecnfekaaaGreatDoorGH
import Derived.Test.YtgaldlecnfekaaaGreatDoorShelf
import Derived.Laws.MakeOwn
import Derived.Maps.AppendAt
import Derived.Deep.DeepCutAuto
import Derived.Deep.CutBlock
import Derived.Laws.OwnMore
import Derived.Deep.RegionHeld3
namespace Go.Proofs.YtgaldlecnfekaaaGreatDoor
open Go.RowKit Classical

/-- What machine.Invert does. -/
def InvPost (M : Mach) (w : World) (e : Ending) (w' : World) : Prop :=
  ∃ v N err, e = .returned (.tuple #[v, .int .i64 err]) ∧ MachAt w' w'.heap.size v N ∧ Below w.heap.size w w' ∧ (¬ ValidM M → err = 1) ∧ (ValidM M → err = 0 ∧ InvOf M N)

theorem RowAt.setC {w : World} {B : Nat} {a : Option Addr} {xs : List Value} (h : RowAt w B a xs) {p : Addr} (hne : ∀ b o, a = some ⟨b, o, none⟩ → b ≠ p.block) (u : Value) : RowAt (w.setCell p u) B a xs := fun hn => by
  obtain ⟨b, off, e, hb, hc⟩ := h hn
  exact ⟨b, off, e, hb, fun i x hi => (World.cell?_setCell_other w p ⟨b, off + i, none⟩ u (fun e2 => hne b off e (by rw [e2]))).trans (hc i x hi)⟩

theorem range_most : ∀ (l : List Int) (n : Nat) (m : Int), (∀ s ∈ l, m ≤ s ∧ s < m + n) → l.Pairwise (· < ·) → l.length ≤ n
  | [], _, _, _, _ => Nat.zero_le _
  | a :: l, n, m, h, hp => by
    have ha := h a (List.mem_cons_self ..)
    obtain ⟨h1, h2⟩ := List.pairwise_cons.1 hp
    have := range_most l (n - 1) (m + 1) (fun s hs => by
      have h3 := h s (List.mem_cons_of_mem _ hs)
      have h4 := h1 s hs
      omega) h2
    simp only [List.length_cons]
    omega
theorem final_most {M : Mach} (h : ValidM M) : M.final.length ≤ 4000 := by
  have h1 := h.one
  have h2 := h.most
  have := range_most M.final M.states.toNat 0 (fun s hs => by have := h.final s hs; unfold StateOk at this; omega) h.inc
  omega
theorem clone_ints (a : Option Addr) (zs : List Int) (c : Nat) (w : World) (hl : zs.length ≤ 4000) (h : RowAt w w.heap.size a (nums zs)) :
    Calls Tryz.prog 58 #[.slice a zs.length c] w fun e w' => ∃ v', e = .returned v' ∧ w'.ownsRow w.heap.size 3 1 v' zs.length (nums zs) ∧ Below w.heap.size w w' := by
  by_cases h0 : zs.length = 0
  · have e0 := List.length_eq_zero_iff.1 h0
    subst e0
    cases a with
    | none =>
      refine Calls.mono (show Calls Tryz.prog 58 _ _ _ from Tryz.slices_Clone_int_nil 0 c w) ?_
      rintro e w' ⟨rfl, rfl⟩
      exact ⟨_, rfl, World.ownsRow_nil _ _ _ _, Below.refl _ _⟩
    | some a =>
      refine Calls.mono (show Calls Tryz.prog 58 _ _ _ from Tryz.slices_Clone_int_zero a c w) ?_
      rintro e w' ⟨v', rfl, h1, _, h2⟩
      exact ⟨v', rfl, h1, h2⟩
  · obtain ⟨b, off, rfl, _, hc⟩ := h.nums (by omega)
    refine Calls.mono (show Calls Tryz.prog 58 _ _ _ from Tryz.slices_Clone_int b off zs.length c zs w (Nat.le_refl _) (by omega) (fun j hj => by rw [hc j hj, List.getD_eq_getElem?_getD, List.getElem?_eq_getElem hj]; rfl)) ?_
    rintro e w' ⟨v', rfl, h1, _, h2⟩
    rw [List.take_length] at h1
    exact ⟨v', rfl, h1, h2⟩

theorem inv_small {M : Mach} (h : ValidM M) : ∀ a ∈ M.arcs.map Arc.inv, Small a := by
  intro a ha
  obtain ⟨b, hb, rfl⟩ := List.mem_map.1 ha
  obtain ⟨⟨h1, h2⟩, ⟨h3, h4⟩, h5, h6⟩ := h.arcs b hb
  have h7 := h.most
  have s1 : 0 ≤ b.inp ∧ b.inp ≤ 126 := by rcases h5 with h5 | h5 <;> omega
  have s2 : 0 ≤ b.out ∧ b.out ≤ 126 := by rcases h6 with h6 | h6 <;> omega
  simp only [Small, Arc.inv]
  omega
theorem inv_inv (a : Arc) : a.inv.inv = a := rfl
theorem inv_of {M : Mach} (h : ValidM M) {S : List Arc} (hp : S.Perm (M.arcs.map Arc.inv)) (hi : (M.arcs.map Arc.inv).Nodup → Increasing S) : InvOf M ⟨M.states, M.start, M.final, S⟩ := by
  refine ⟨rfl, rfl, rfl, hi ?_, fun a => ?_, by show S.length = _; rw [hp.length_eq, List.length_map]⟩
  · have h1 : M.arcs.Nodup := h.arcsInc.imp (fun {a b} hab e => by rw [e] at hab; exact Arc.lt_irrefl _ hab)
    unfold List.Nodup at *
    rw [List.pairwise_map]
    exact h1.imp (fun {a b} hne e => hne (show a.inv.inv = b.inv.inv from congrArg Arc.inv e))
  · show a ∈ S ↔ _
    rw [hp.mem_iff, List.mem_map]
    constructor
    · rintro ⟨b, hb, rfl⟩; exact hb
    · intro hb; exact ⟨_, hb, rfl⟩

set_option maxRecDepth 100000 in
set_option maxHeartbeats 4000000 in
theorem Invert_any (M : Mach) (v : Value) (w : World) (h : MachAt w w.heap.size v M) :
    Calls Tryz.prog 27 #[v] w (InvPost M w) := by
  have hMA := h
  obtain ⟨fa, fc, aa, ac, rfl, hfl, hal, hf, ha⟩ := h
  obtain ⟨W0, hW0⟩ : ∃ W0 : World, W0 = (w.alloc (.cells #[.int .i64 M.states, .int .i64 M.start, .slice fa M.final.length fc, .slice aa M.arcs.length ac] 25)).alloc (.cells #[.int .i64 0, .int .i64 0, .slice none 0 0, .slice none 0 0] 25) := ⟨_, rfl⟩
  have hw0 : Below w.heap.size w W0 := by rw [hW0]; exact ((Below.refl _ _).alloc (Nat.le_refl _) _).alloc (by simp) _
  have hB0 : Blk W0 w.heap.size #[.int .i64 M.states, .int .i64 M.start, .slice fa M.final.length fc, .slice aa M.arcs.length ac] 25 := by rw [hW0]; exact (Blk.new _ _ _).alloc _
  have hR0 : Blk W0 (w.heap.size + 1) #[.int .i64 0, .int .i64 0, .slice none 0 0, .slice none 0 0] 25 := by
    rw [hW0]; have := Blk.new (w.alloc (.cells #[.int .i64 M.states, .int .i64 M.start, .slice fa M.final.length fc, .slice aa M.arcs.length ac] 25)) #[.int .i64 0, .int .i64 0, .slice none 0 0, .slice none 0 0] 25
    simpa using this
  have hlt0 := hB0.lt
  have hlt1 := hR0.lt
  have hsz0 : W0.heap.size = w.heap.size + 2 := by rw [hW0]; simp
  have HM := Lib.hid (fun (wr : World) (hbw : Below W0.heap.size W0 wr) => (show wr.cell? ⟨w.heap.size, 0, none⟩ = some (.int .i64 M.states) ∧ wr.cell? ⟨w.heap.size, 1, none⟩ = some (.int .i64 M.start) ∧ wr.cell? ⟨w.heap.size, 2, none⟩ = some (.slice fa M.final.length fc) ∧ wr.cell? ⟨w.heap.size, 3, none⟩ = some (.slice aa M.arcs.length ac) from
    ⟨(hB0.below hbw hlt0).cell 0, (hB0.below hbw hlt0).cell 1, (hB0.below hbw hlt0).cell 2, (hB0.below hbw hlt0).cell 3⟩))
  have HR := Lib.hid (fun (wr : World) (hbw : Below W0.heap.size W0 wr) => hR0.below hbw hlt1)
  have HA := Lib.hid (fun (wr : World) (hbw : Below W0.heap.size W0 wr) => (show MachAt wr wr.heap.size (.agg #[.int .i64 M.states, .int .i64 M.start, .slice fa M.final.length fc, .slice aa M.arcs.length ac]) M from
    have h1 := hw0.trans (hbw.mono hw0.size); (hMA.below h1 (Nat.le_refl _)).more h1.size))
  have HW0 := Lib.hid (And.intro hW0 (And.intro hw0 hsz0))
  obtain ⟨m0, m1, m2, m3⟩ := HM.out W0 (Below.refl _ _)
  clear hW0 hw0 hB0 hR0 hMA hsz0
  unfold maxLen at hfl hal
  go_enter Tryz.func27, Tryz.ntmps27
  go_wp2_with fail
  rw [← HW0.out.1]
  refine (MValid_any M _ W0 (HA.out W0 (Below.refl _ _))).mono ?_
  rintro e w1 ⟨rfl, hb1⟩
  clear m0 m1 m2 m3
  obtain ⟨m0, m1, m2, m3⟩ := HM.out w1 hb1
  by_cases hv : ValidM M
  case neg =>
    rw [decide_eq_false hv]
    have hr := HR.out w1 hb1
    have z0 : w1.cell? ⟨w.heap.size + 1, 0, none⟩ = some (.int .i64 0) := hr.cell 0
    have z1 : w1.cell? ⟨w.heap.size + 1, 1, none⟩ = some (.int .i64 0) := hr.cell 1
    have z2 : w1.cell? ⟨w.heap.size + 1, 2, none⟩ = some (.slice none 0 0) := hr.cell 2
    have z3 : w1.cell? ⟨w.heap.size + 1, 3, none⟩ = some (.slice none 0 0) := hr.cell 3
    have fz : ∀ j, w1.frozen? ⟨w.heap.size + 1, j, none⟩ = false := fun j => hr.frozen j
    have hbF := HW0.out.2.1.trans (hb1.mono HW0.out.2.1.size)
    have Hv := Lib.hid hv
    clear hv hr
    go_wp2
    refine bodyPost_ret (v := .tuple #[.agg #[.int .i64 0, .int .i64 0, .slice none 0 0, .slice none 0 0], .int .i64 1]) (by simp [results, Tryz.results27, go_sem, z0, z1, z2, z3]) rfl ?_
    have hbs := (((hbF.setCell (p := ⟨w.heap.size + 1, 0, none⟩) (by simp) (.int .i64 0)).setCell (p := ⟨w.heap.size + 1, 1, none⟩) (by simp) (.int .i64 0)).setCell (p := ⟨w.heap.size + 1, 2, none⟩) (by simp) (.slice none 0 0)).setCell (p := ⟨w.heap.size + 1, 3, none⟩) (by simp) (.slice none 0 0)
    exact ⟨_, ⟨0, 0, [], []⟩, 1, rfl, ⟨none, 0, none, 0, rfl, by simp, by simp, fun h => by simp [nums] at h, fun h => by simp [flat] at h⟩, hbs, fun _ => rfl, fun h => absurd h Hv.out⟩
  rw [decide_eq_true hv]
  have Hv := Lib.hid hv
  have hfl4 := final_most hv
  have hal4 := hv.arcsLen
  clear hv
  go_upto_region 3 with (fail)
  have HCl := Lib.hid (fun (W : World) (hb : Below w1.heap.size w1 W) => clone_ints fa M.final fc W hfl4 (by
    have hb2 := HW0.out.2.1.trans ((hb1.trans (hb.mono hb1.size)).mono HW0.out.2.1.size)
    exact (hf.below hb2 (Nat.le_refl _)).more hb2.size))
  have hn0 := World.new_ne w1 ⟨w.heap.size, 0, none⟩ m0
  have hn1 := World.new_ne w1 ⟨w.heap.size, 1, none⟩ m1
  have hn2 := World.new_ne w1 ⟨w.heap.size, 2, none⟩ m2
  have hw1 := HW0.out.2.1.trans (hb1.mono HW0.out.2.1.size)
  obtain ⟨W3, hW3⟩ : ∃ W3 : World, W3 = (w1.alloc (.cells #[.int .i64 0, .int .i64 0, .slice none 0 0, .slice none 0 0] 25)).drew := ⟨_, rfl⟩
  have h13 : Below w1.heap.size w1 W3 := by rw [hW3]; exact ((Below.refl _ _).alloc (Nat.le_refl _) _).drew
  have ho3 : Blk W3 w1.heap.size #[.int .i64 0, .int .i64 0, .slice none 0 0, .slice none 0 0] 25 := by rw [hW3]; exact Blk.new _ _ _
  have H3 := Lib.hid (And.intro h13 ho3)
  have HW3 := Lib.hid hW3
  clear hW3 h13 ho3
  go_cut [4] (fun p wx => ∃ (g : Nat) (fv : Value), p = .pointer (some ⟨g, 0, none⟩) ∧ w1.heap.size ≤ g ∧ Blk wx g #[.int .i64 M.states, .int .i64 M.start, fv, .slice none 0 0] 25 ∧ wx.ownsRow w1.heap.size 3 1 fv M.final.length (nums M.final) ∧ Below w1.heap.size w1 wx)
  case first =>
    go_region_held3 (fun w' => w'.cell? ⟨w.heap.size, 0, none⟩ = some (.int .i64 M.states) ∧ w'.cell? ⟨w.heap.size, 1, none⟩ = some (.int .i64 M.start) ∧ w'.cell? ⟨w.heap.size, 2, none⟩ = some (.slice fa M.final.length fc))
      (first | exact ⟨m0, m1, m2⟩ | exact ⟨y0, y1, y2⟩ | go_keep)
      (first
        | (go_at_call 58; rw [← HW3.out]; refine (HCl.out W3 H3.out.1).mono ?_; rintro e w4 ⟨fv, rfl, hfv, hb4⟩; obtain ⟨fva, fvc, rfl, -, -⟩ := RowAt.of_own hfv; have hb14 := H3.out.1.trans (hb4.mono H3.out.1.size); have ho4 := Blk.below H3.out.2 hb4 H3.out.2.lt; have oc := fun j => ho4.cell j; have oc0 := oc 0; have oc1 := oc 1; have oc2 := oc 2; have oc3 := oc 3; simp only [List.getElem?_toArray, List.getElem?_cons_zero, List.getElem?_cons_succ] at oc0 oc1 oc2 oc3; have of4 := fun j => ho4.frozen j; obtain ⟨y0, y1, y2, y3⟩ := HM.out w4 (hb1.trans (hb14.mono hb1.size)); clear oc)
        | (go_at_call 58; refine (HCl.out w1.drew (Below.refl _ _).drew).mono ?_; rintro e w4 ⟨fv, rfl, hfv, hb4⟩; obtain ⟨fva, fvc, rfl, -, -⟩ := RowAt.of_own hfv; have hb14 : Below w1.heap.size w1 w4 := (Below.refl w1.heap.size w1).drew.trans hb4; obtain ⟨y0, y1, y2, y3⟩ := HM.out w4 (hb1.trans (hb14.mono hb1.size)); have hn4 := World.new_ne w4 ⟨w.heap.size, 0, none⟩ y0))
    all_goals go_wp2_with fail
    all_goals go_meet
    · exact ⟨w4.heap.size, _, rfl, hb14.size, Blk.new _ _ _, World.ownsRow.alloc (show w4.ownsRow w1.heap.size 3 1 _ M.final.length (nums M.final) from hfv) _, hb14.alloc hb14.size _⟩
    · have hne := ho4.own_ne hfv (by decide)
      have hfv1 := own_base hfv H3.out.1.size
      refine ⟨w1.heap.size, _, rfl, Nat.le_refl _, ?_, own_setCell (own_setCell (own_setCell (own_setCell hfv1 (p := ⟨w1.heap.size, 0, none⟩) hne _) (p := ⟨w1.heap.size, 1, none⟩) hne _) (p := ⟨w1.heap.size, 2, none⟩) hne _) (p := ⟨w1.heap.size, 3, none⟩) hne _, (((hb14.setCell (p := ⟨w1.heap.size, 0, none⟩) (Nat.le_refl _) _).setCell (p := ⟨w1.heap.size, 1, none⟩) (Nat.le_refl _) _).setCell (p := ⟨w1.heap.size, 2, none⟩) (Nat.le_refl _) _).setCell (p := ⟨w1.heap.size, 3, none⟩) (Nat.le_refl _) _⟩
      have := (((ho4.set_ 0 (.int .i64 M.states)).set_ 1 (.int .i64 M.start)).set_ 2 (.slice fva M.final.length fvc)).set_ 3 (.slice none 0 0)
      simpa using this
  case rest =>
    obtain ⟨ob, fv, rfl, hob, hob1, hfv, hbx⟩ := hcut
    clear hn0 hn1 hn2 m0 m1 m2 m3
    obtain ⟨m0, m1, m2, m3⟩ := HM.out _ (hb1.trans (hbx.mono hb1.size))
    go_wp2_with fail
    obtain ⟨wL, rfl⟩ : ∃ wL : World, wL = wc := ⟨_, rfl⟩
    obtain ⟨j0, hj, hj0, hj1, hj2⟩ := info_parts info_arc
    clear m0 m1 m2 m3
    go_loopw [22] (fun i wx => ∃ (k : Nat) (av : Value), k ≤ M.arcs.length ∧ i = .int .i64 k ∧ (k = 0 → av = .slice none 0 0) ∧ wx.ownsRow w1.heap.size 59 4 av k (flat ((M.arcs.map Arc.inv).take k)) ∧ Blk wx ob #[.int .i64 M.states, .int .i64 M.start, fv, av] 25 ∧
      wx.ownsRow w1.heap.size 3 1 fv M.final.length (nums M.final) ∧ Below w1.heap.size w1 wx) (fun i _ => M.arcs.length - (intOf i).toNat)
    case atStart => exact ⟨0, _, Nat.zero_le _, rfl, fun _ => rfl, World.ownsRow_nil _ _ _ _, hob1, hfv, hbx⟩
    case round =>
      obtain ⟨k, av, hk, rfl, hnil, hown, hblk, hfv', hbr⟩ := hrel
      have hbw := hw1.trans (hbr.mono hw1.size)
      have hszr := hbr.size
      have Hb := Lib.hid (And.intro hnil (And.intro hown (And.intro hblk hfv')))
      clear hnil hown hblk hfv'
      by_cases hka : k < M.arcs.length
      · obtain ⟨b, off, rfl, hb, hc⟩ := (ha.below hbw (Nat.le_refl _)).arcs (by omega)
        obtain ⟨k0, k1, k2, k3⟩ := hc k hka
        obtain ⟨z, hz⟩ : ∃ z, z = M.arcs[k] := ⟨_, rfl⟩
        rw [← hz] at k0 k1 k2 k3
        have Hz := Lib.hid hz
        obtain ⟨ava, avc, rfl, _, _⟩ := RowAt.of_own Hb.out.2.1
        clear hz hc
        go_upto_region 7 with (fail)
        obtain ⟨W8, hW8⟩ : ∃ W8 : World, W8 = wr.alloc (.cells #[.int .i64 z.frm, .int .i64 z.inp, .int .i64 z.out, .int .i64 z.to] 59) := ⟨_, rfl⟩
        rw [← hW8]
        have hz8 : Blk W8 wr.heap.size #[.int .i64 z.frm, .int .i64 z.inp, .int .i64 z.out, .int .i64 z.to] 59 := by rw [hW8]; exact Blk.new _ _ _
        have hb8 : Below wr.heap.size wr W8 := by rw [hW8]; exact (Below.refl _ _).alloc (Nat.le_refl _) _
        have hown8 : W8.ownsRow w1.heap.size 59 4 (.slice ava k avc) k (flat ((M.arcs.map Arc.inv).take k)) := own_below Hb.out.2.1 hb8
        have hgb8 := Hb.out.2.2.1.below hb8 Hb.out.2.2.1.lt
        have hfv8 := own_below Hb.out.2.2.2 hb8
        have hbx8 : Below w1.heap.size w1 W8 := hbr.trans (hb8.mono hszr)
        have z0 : W8.cell? ⟨wr.heap.size, 0, none⟩ = some (.int .i64 z.frm) := hz8.cell 0
        have z1 : W8.cell? ⟨wr.heap.size, 1, none⟩ = some (.int .i64 z.inp) := hz8.cell 1
        have z2 : W8.cell? ⟨wr.heap.size, 2, none⟩ = some (.int .i64 z.out) := hz8.cell 2
        have z3 : W8.cell? ⟨wr.heap.size, 3, none⟩ = some (.int .i64 z.to) := hz8.cell 3
        have g3 : W8.cell? ⟨ob, 3, none⟩ = some (.slice ava k avc) := hgb8.cell 3
        have hsz8 := hbx8.size
        have H8 := Lib.hid (And.intro hown8 (And.intro hgb8 hfv8))
        clear hW8 hz8 hb8 hown8 hgb8 hfv8 k0 k1 k2 k3
        go_wp2_with (at_builtin; refine wpList_append_own _ rfl _ _ 23 rfl w1.heap.size 59 j0 _ 4 32 Tryz.underlying23 hj hj0 hj1 hj2 rfl (by decide) _ _ _ rfl (H8.out.1.alloc _) ⟨W8.heap.size, 0, none⟩ 1 1 z.inv.cells rfl rfl (by exact cells_new W8 z.inv.cells 59) (by simp [Arc.inv, Arc.cells, Value.oneCell']) (by unfold maxLen; omega) (by omega) (by simp; omega) ?_)
        intro v9 w9 hown9 hgrow9 _
        obtain ⟨a9, c9, rfl, _, _⟩ := RowAt.of_own hown9
        have hgb9 := (H8.out.2.1.alloc _).grown hgrow9 (fun e => H8.out.2.1.own_ne H8.out.1 (by decide) e.symm)
        have hfv9 := own_kept_other (H8.out.2.2.alloc _) (H8.out.1.alloc _) (by decide) hgrow9
        have hbx9 : Below w1.heap.size w1 w9 := (hbx8.alloc hsz8 _).grown hgrow9 (by simp; omega) (fun j hj => (H8.out.1.lt j hj).1)
        have f9 := hgb9.frozen 3
        have d9 := hgb9.cell 3
        have hgbN := hgb9.set_ 3 (.slice a9 (k + 1) c9)
        have hownN := own_setCell hown9 (p := ⟨ob, 3, none⟩) (fun e => hgb9.own_ne hown9 (by decide) e) (.slice a9 (k + 1) c9)
        have hfvN := own_setCell hfv9 (p := ⟨ob, 3, none⟩) (fun e => hgb9.own_ne hfv9 (by decide) e) (.slice a9 (k + 1) c9)
        have hbxN := hbx9.setCell (p := ⟨ob, 3, none⟩) hob (.slice a9 (k + 1) c9)
        have hflat : flat ((M.arcs.map Arc.inv).take k) ++ z.inv.cells = flat ((M.arcs.map Arc.inv).take (k + 1)) := by
          rw [List.take_add_one, List.getElem?_map, List.getElem?_eq_getElem hka, ← Hz.out, flat_append]
          simp [flat]
        rw [hflat] at hownN
        have HN := Lib.hid (And.intro hgbN (And.intro hownN (And.intro hfvN hbxN)))
        clear hgbN hownN hfvN hbxN hgb9 hfv9 hbx9 hown9 hgrow9 g3 z0 z1 z2 z3
        go_wp2_with fail
        exact ⟨⟨k + 1, .slice a9 (k + 1) c9, by omega, by go_num, fun h => absurd h (by omega), HN.out.2.1, HN.out.1, HN.out.2.2.1, HN.out.2.2.2⟩, by simp [intOf]; omega⟩
      · obtain rfl : k = M.arcs.length := by omega
        have hsort : Calls Tryz.prog 59 #[av, .func (.func 56) #[] #[]] wr fun e w' =>
            e = .returned (.tuple #[]) ∧ ∃ S : List Arc, S.Perm (M.arcs.map Arc.inv) ∧ ((M.arcs.map Arc.inv).Nodup → Increasing S) ∧ w'.ownsRow w1.heap.size 59 4 av M.arcs.length (flat S) ∧ Chg (fun g => av.ownBlock = some g) wr w' := by
          have h1 := Hb.out.2.1
          rw [List.take_of_length_le (by simp)] at h1
          by_cases h0 : M.arcs.length = 0
          · rw [Hb.out.1 h0] at h1 ⊢
            refine (sort_none _ wr).mono ?_
            rintro e w' ⟨rfl, rfl⟩
            exact ⟨rfl, M.arcs.map Arc.inv, List.Perm.refl _, fun _ => by rw [List.length_eq_zero_iff.1 h0]; exact List.Pairwise.nil, h1, Chg.refl _ _⟩
          · obtain ⟨m, hm⟩ : ∃ m, M.arcs.length = m + 1 := ⟨M.arcs.length - 1, by omega⟩
            have h2 := h1
            rw [hm] at h2
            obtain ⟨g, cap, e⟩ := own_succ h2
            rw [← hm] at e
            subst e
            have hl : (M.arcs.map Arc.inv).length = M.arcs.length := by simp
            have h3 := sorted_small (M.arcs.map Arc.inv) (inv_small Hv.out) g cap w1.heap.size wr (by omega) (by rw [hl]; exact h1)
            rw [hl] at h3
            refine h3.mono ?_
            rintro e w' ⟨rfl, S, q1, q2, q3, q4, q5⟩
            exact ⟨rfl, S, q2, q3, q4, q5.mono (fun k e => by rw [e]; rfl)⟩
        have Hsort := Lib.hid hsort
        clear hsort
        obtain ⟨ava, avc, rfl, _, _⟩ := RowAt.of_own Hb.out.2.1
        obtain ⟨fva, fvc, rfl, _, _⟩ := RowAt.of_own Hb.out.2.2.2
        have g3 : wr.cell? ⟨ob, 3, none⟩ = some (.slice ava M.arcs.length avc) := Hb.out.2.2.1.cell 3
        go_wp2_with fail
        refine Hsort.out.mono ?_
        rintro e w6 ⟨rfl, S, hS1, hS2, hSo, hc6⟩
        have hg6 := Hb.out.2.2.1.chg hc6 (fun e => Hb.out.2.2.1.own_ne Hb.out.2.1 (by decide) e)
        have hf6 := own_chg Hb.out.2.2.2 hc6 (fun g e1 e2 => by
          rcases own_ne Hb.out.2.2.2 Hb.out.2.1 (by decide) with h | h
          · rw [h] at e1; cases e1
          · exact h (e1.trans e2.symm))
        have hb6 : Below w1.heap.size w1 w6 := hbr.trans (hc6.below (fun k e => (Hb.out.2.1.lt k e).1) hszr)
        have hb60 := hb1.trans (hb6.mono hb1.size)
        have hw6 := HW0.out.2.1.trans (hb60.mono HW0.out.2.1.size)
        have hR6 := HR.out w6 hb60
        have q0 : w6.cell? ⟨w.heap.size + 1, 0, none⟩ = some (.int .i64 0) := hR6.cell 0
        have q1 : w6.cell? ⟨w.heap.size + 1, 1, none⟩ = some (.int .i64 0) := hR6.cell 1
        have q2 : w6.cell? ⟨w.heap.size + 1, 2, none⟩ = some (.slice none 0 0) := hR6.cell 2
        have q3 : w6.cell? ⟨w.heap.size + 1, 3, none⟩ = some (.slice none 0 0) := hR6.cell 3
        have f0 : ∀ j, w6.frozen? ⟨w.heap.size + 1, j, none⟩ = false := fun j => hR6.frozen j
        have o0 : w6.cell? ⟨ob, 0, none⟩ = some (.int .i64 M.states) := hg6.cell 0
        have o1 : w6.cell? ⟨ob, 1, none⟩ = some (.int .i64 M.start) := hg6.cell 1
        have o2 : w6.cell? ⟨ob, 2, none⟩ = some (.slice fva M.final.length fvc) := hg6.cell 2
        have o3 : w6.cell? ⟨ob, 3, none⟩ = some (.slice ava M.arcs.length avc) := hg6.cell 3
        have hl1 := HW0.out.2.2
        have hl2 := hb1.size
        have hne : ob ≠ w.heap.size + 1 := by omega
        have hSl : S.length = M.arcs.length := by rw [hS1.length_eq, List.length_map]
        have HF := Lib.hid (And.intro hS1 (And.intro hS2 (And.intro hSo (And.intro hf6 (And.intro hw6 hSl)))))
        have hlt6 := hw6.size
        clear hR6 hg6 hc6 hS1 hS2 hSo hf6 hw6 hSl g3 Hsort
        go_wp2
        refine bodyPost_ret (v := .tuple #[.agg #[.int .i64 M.states, .int .i64 M.start, .slice fva M.final.length fvc, .slice ava M.arcs.length avc], .int .i64 0]) (by simp [results, Tryz.results27, go_sem, q0, q1, q2, q3]) rfl ?_
        have hbs := (((HF.out.2.2.2.2.1.setCell (p := ⟨w.heap.size + 1, 0, none⟩) (by simp) (.int .i64 M.states)).setCell (p := ⟨w.heap.size + 1, 1, none⟩) (by simp) (.int .i64 M.start)).setCell (p := ⟨w.heap.size + 1, 2, none⟩) (by simp) (.slice fva M.final.length fvc)).setCell (p := ⟨w.heap.size + 1, 3, none⟩) (by simp) (.slice ava M.arcs.length avc)
        obtain ⟨_, _, e1, _, hrS⟩ := RowAt.of_own HF.out.2.2.1
        injection e1 with e1 _ e1c
        subst e1 e1c
        obtain ⟨_, _, e2, _, hrF⟩ := RowAt.of_own HF.out.2.2.2.1
        injection e2 with e2 _ e2c
        subst e2 e2c
        have hneS : ∀ bb o, ava = some ⟨bb, o, none⟩ → bb ≠ w.heap.size + 1 := fun bb o e => by
          have := (HF.out.2.2.1.lt bb (by rw [e]; rfl)).1; omega
        have hneF : ∀ bb o, fva = some ⟨bb, o, none⟩ → bb ≠ w.heap.size + 1 := fun bb o e => by
          have := (HF.out.2.2.2.1.lt bb (by rw [e]; rfl)).1; omega
        have hrow1 := (((hrS.setC (p := ⟨w.heap.size + 1, 0, none⟩) hneS (.int .i64 M.states)).setC (p := ⟨w.heap.size + 1, 1, none⟩) hneS (.int .i64 M.start)).setC (p := ⟨w.heap.size + 1, 2, none⟩) hneS (.slice fva M.final.length fvc)).setC (p := ⟨w.heap.size + 1, 3, none⟩) hneS (.slice ava M.arcs.length avc)
        have hrow2 := (((hrF.setC (p := ⟨w.heap.size + 1, 0, none⟩) hneF (.int .i64 M.states)).setC (p := ⟨w.heap.size + 1, 1, none⟩) hneF (.int .i64 M.start)).setC (p := ⟨w.heap.size + 1, 2, none⟩) hneF (.slice fva M.final.length fvc)).setC (p := ⟨w.heap.size + 1, 3, none⟩) hneF (.slice ava M.arcs.length avc)
        refine ⟨_, ⟨M.states, M.start, M.final, S⟩, 0, rfl, ⟨fva, fvc, ava, avc, (by show _ = Value.agg #[_, _, _, .slice _ S.length _]; rw [HF.out.2.2.2.2.2]), by unfold maxLen; omega, (by show S.length ≤ _; rw [HF.out.2.2.2.2.2]; unfold maxLen; omega), hrow2.more (by simp), hrow1.more (by simp)⟩, hbs, fun h => absurd Hv.out h, fun _ => ⟨rfl, inv_of Hv.out HF.out.1 HF.out.2.1⟩⟩
end Go.Proofs.YtgaldlecnfekaaaGreatDoor
