/- Walk: machine.Valid is ValidM. -/
import Derived.Test.YtabocamjaecaaaaGreatDoorGK
import Derived.BigQuiet
import Derived.Deep.QuietTactic
import Derived.Deep.RegionHeld3
import Derived.Test.YtabocamjaecaaaaGreatDoorGT
namespace Go.Proofs.YtabocamjaecaaaaGreatDoor
open Go.RowKit Classical

theorem state_yes (z n : Int) (b : Nat) (w : World) (hz : StateOk n z) (h : w.cell? ⟨b, 0, none⟩ = some (.int .i64 n)) :
  Calls Tryz.prog 33 #[.int .i64 z, .pointer (some ⟨b, 0, none⟩)] w fun e w' => e = .returned (.bool true) ∧ w' = w := by
 have := state_any z n b w h; rwa [decide_eq_true hz] at this
theorem state_no (z n : Int) (b : Nat) (w : World) (hz : ¬ StateOk n z) (h : w.cell? ⟨b, 0, none⟩ = some (.int .i64 n)) :
  Calls Tryz.prog 33 #[.int .i64 z, .pointer (some ⟨b, 0, none⟩)] w fun e w' => e = .returned (.bool false) ∧ w' = w := by
 have := state_any z n b w h; rwa [decide_eq_false hz] at this
theorem symbol_yes (z : Int) (w : World) (hz : SymOk z) : Calls Tryz.prog 34 #[.int .i64 z] w fun e w' => e = .returned (.bool true) ∧ w' = w := by
 have := symbol_any z w; rwa [decide_eq_true hz] at this
theorem symbol_no (z : Int) (w : World) (hz : ¬ SymOk z) : Calls Tryz.prog 34 #[.int .i64 z] w fun e w' => e = .returned (.bool false) ∧ w' = w := by
 have := symbol_any z w; rwa [decide_eq_false hz] at this

theorem pair_snoc {α : Type} {R : α → α → Prop} (hR : ∀ a b c, R a b → R b c → R a c) {l : List α} {k : Nat} {x : α} (hx : l[k]? = some x) (h : (l.take k).Pairwise R) (hp : ∀ y, 0 < k → l[k - 1]? = some y → R y x) : (l.take (k + 1)).Pairwise R := by
 rw [List.take_add_one, hx]
 refine List.pairwise_append.2 ⟨h, List.pairwise_singleton _ _, fun a ha b hb => ?_⟩
 obtain rfl : b = x := by simpa using hb
 obtain ⟨i, hi⟩ := List.mem_iff_getElem?.1 ha
 rw [List.getElem?_take] at hi
 split at hi
 ·rename_i hik
  have hkl : k < l.length := (List.getElem?_eq_some_iff.1 hx).1
  have hlast := hp l[k - 1] (by omega) (List.getElem?_eq_getElem (by omega))
  rcases Nat.lt_or_ge i (k - 1) with h1 | h1
  ·have hik' : i < (l.take k).length := by rw [List.length_take]; omega
   have hkk' : k - 1 < (l.take k).length := by rw [List.length_take]; omega
   have := List.pairwise_iff_getElem.1 h i (k - 1) hik' hkk' h1
   rw [List.getElem_take, List.getElem_take] at this
   have e : l[i] = a := by rw [List.getElem?_eq_getElem (by omega)] at hi; exact Option.some.inj hi
   rw [e] at this
   exact hR _ _ _ this hlast
  ·have e : i = k - 1 := by omega
   subst e
   rw [List.getElem?_eq_getElem (by omega)] at hi
   obtain rfl := Option.some.inj hi
   exact hlast
 ·cases hi
theorem pair_last {α : Type} {R : α → α → Prop} {l : List α} {k : Nat} {x y : α} (h : l.Pairwise R) (h0 : 0 < k) (hx : l[k]? = some x) (hy : l[k - 1]? = some y) : R y x := by
 obtain ⟨h1, e1⟩ := List.getElem?_eq_some_iff.1 hx
 obtain ⟨h2, e2⟩ := List.getElem?_eq_some_iff.1 hy
 have := List.pairwise_iff_getElem.1 h (k - 1) k h2 h1 (by omega)
 rwa [e1, e2] at this

def FinPart (M : Mach) (k : Nat) : Prop := (∀ j s, j < k → M.final[j]? = some s → StateOk M.states s) ∧ (M.final.take k).Pairwise (· < ·)
def ArcPart (M : Mach) (k : Nat) : Prop := (∀ j a, j < k → M.arcs[j]? = some a → StateOk M.states a.frm ∧ StateOk M.states a.to ∧ SymOk a.inp ∧ SymOk a.out) ∧ (M.arcs.take k).Pairwise Arc.lt
theorem FinPart.zero (M : Mach) : FinPart M 0 := ⟨fun j s hj => absurd hj (Nat.not_lt_zero _), by simp⟩
theorem ArcPart.zero (M : Mach) : ArcPart M 0 := ⟨fun j s hj => absurd hj (Nat.not_lt_zero _), by simp⟩
theorem FinPart.snoc {M : Mach} {k : Nat} {x : Int} (h : FinPart M k) (hx : M.final[k]? = some x) (ho : StateOk M.states x) (hp : ∀ y, 0 < k → M.final[k - 1]? = some y → y < x) : FinPart M (k + 1) := by
 refine ⟨fun j s hj hs => ?_, pair_snoc (R := fun a b : Int => a < b) (fun a b c h1 h2 => Int.lt_trans h1 h2) hx h.2 hp⟩
 rcases Nat.lt_succ_iff_lt_or_eq.1 hj with hj | rfl
 ·exact h.1 j s hj hs
 ·rw [hx] at hs; cases hs; exact ho
theorem ArcPart.snoc {M : Mach} {k : Nat} {x : Arc} (h : ArcPart M k) (hx : M.arcs[k]? = some x) (ho : StateOk M.states x.frm ∧ StateOk M.states x.to ∧ SymOk x.inp ∧ SymOk x.out) (hp : ∀ y, 0 < k → M.arcs[k - 1]? = some y → y.lt x) : ArcPart M (k + 1) := by
 refine ⟨fun j s hj hs => ?_, pair_snoc (R := Arc.lt) (fun a b c h1 h2 => Arc.lt_trans h1 h2) hx h.2 hp⟩
 rcases Nat.lt_succ_iff_lt_or_eq.1 hj with hj | rfl
 ·exact h.1 j s hj hs
 ·rw [hx] at hs; cases hs; exact ho
theorem FinPart.all {M : Mach} (h : FinPart M M.final.length) : (∀ s ∈ M.final, StateOk M.states s) ∧ M.final.Pairwise (· < ·) :=
 ⟨fun s hs => by
  obtain ⟨j, hj⟩ := List.mem_iff_getElem?.1 hs
  exact h.1 j s (List.getElem?_eq_some_iff.1 hj).1 hj, by have := h.2; rwa [List.take_length] at this⟩
theorem ArcPart.all {M : Mach} (h : ArcPart M M.arcs.length) : (∀ a ∈ M.arcs, StateOk M.states a.frm ∧ StateOk M.states a.to ∧ SymOk a.inp ∧ SymOk a.out) ∧ Increasing M.arcs :=
 ⟨fun s hs => by
  obtain ⟨j, hj⟩ := List.mem_iff_getElem?.1 hs
  exact h.1 j s (List.getElem?_eq_some_iff.1 hj).1 hj, by have := h.2; rwa [List.take_length] at this⟩
set_option maxRecDepth 100000 in
set_option maxHeartbeats 4000000 in
theorem MValid_any (M : Mach) (v : Value) (w : World) (h : MachAt w w.heap.size v M) :
  Calls Tryz.prog 10 #[v] w fun e w' => e = .returned (.bool (decide (ValidM M))) ∧ Below w.heap.size w w' := by
 obtain ⟨fa, fc, aa, ac, rfl, hfl, hal, hf, ha⟩ := h
 have hfl' := hfl
 unfold maxLen at hfl hal
 obtain ⟨W0, hW0⟩ : ∃ W0 : World, W0 = w.alloc (.cells #[.int .i64 M.states, .int .i64 M.start, .slice fa M.final.length fc, .slice aa M.arcs.length ac] 32) := ⟨_, rfl⟩
 have hw0 : Below w.heap.size w W0 := by rw [hW0]; exact (Below.refl _ _).alloc (Nat.le_refl _) _
 have hB0 : Blk W0 w.heap.size #[.int .i64 M.states, .int .i64 M.start, .slice fa M.final.length fc, .slice aa M.arcs.length ac] 32 := by rw [hW0]; exact Blk.new _ _ _
 have hlt0 := hB0.lt
 have HM := Lib.hid (fun (wr : World) (hbw : Below W0.heap.size W0 wr) => (show wr.cell? ⟨w.heap.size, 0, none⟩ = some (.int .i64 M.states) ∧ wr.cell? ⟨w.heap.size, 1, none⟩ = some (.int .i64 M.start) ∧ wr.cell? ⟨w.heap.size, 2, none⟩ = some (.slice fa M.final.length fc) ∧ wr.cell? ⟨w.heap.size, 3, none⟩ = some (.slice aa M.arcs.length ac) from
  ⟨(hB0.below hbw hlt0).cell 0, (hB0.below hbw hlt0).cell 1, (hB0.below hbw hlt0).cell 2, (hB0.below hbw hlt0).cell 3⟩))
 have HF := Lib.hid (fun (wr : World) (hbw : Below W0.heap.size W0 wr) (k : Nat) (hk : k < M.final.length) => by
  obtain ⟨b, off, e, hb, hc⟩ := hf.nums (by omega)
  exact (⟨b, off, e, ((hw0.trans (hbw.mono hw0.size)).cell (p := ⟨b, off + k, none⟩) hb).trans (hc k hk)⟩ : ∃ b off, fa = some ⟨b, off, none⟩ ∧ wr.cell? ⟨b, off + k, none⟩ = some (.int .i64 M.final[k])))
 have HA := Lib.hid (fun (wr : World) (hbw : Below W0.heap.size W0 wr) (k : Nat) (hk : k < M.arcs.length) => by
  obtain ⟨b, off, e, hb, hc⟩ := ha.arcs (by omega)
  have hx := hw0.trans (hbw.mono hw0.size)
  exact (⟨b, off, e, (hx.cell (p := ⟨b, off + k * 4, none⟩) hb).trans (hc k hk).1, (hx.cell (p := ⟨b, off + k * 4 + 1, none⟩) hb).trans (hc k hk).2.1,
   (hx.cell (p := ⟨b, off + k * 4 + 2, none⟩) hb).trans (hc k hk).2.2.1, (hx.cell (p := ⟨b, off + k * 4 + 3, none⟩) hb).trans (hc k hk).2.2.2⟩ :
   ∃ b off, aa = some ⟨b, off, none⟩ ∧ wr.cell? ⟨b, off + k * 4, none⟩ = some (.int .i64 M.arcs[k].frm) ∧ wr.cell? ⟨b, off + k * 4 + 1, none⟩ = some (.int .i64 M.arcs[k].inp) ∧ wr.cell? ⟨b, off + k * 4 + 2, none⟩ = some (.int .i64 M.arcs[k].out) ∧ wr.cell? ⟨b, off + k * 4 + 3, none⟩ = some (.int .i64 M.arcs[k].to)))
 have HW0 := Lib.hid (And.intro hW0 hw0)
 obtain ⟨m0, m1, m2, m3⟩ := HM.out W0 (Below.refl _ _)
 clear hW0 hw0 hB0 hf ha
 go_enter Tryz.func10, Tryz.ntmps10
 go_upto_region 3 with (fail)
 rw [← HW0.out.1]
 by_cases h1 : M.states < 1
 ·have d1 : decide (M.states < 1) = true := decide_eq_true h1
  have hno := Lib.hid (show ¬ ValidM M from fun h => by have := h.one; omega)
  go_wp2
  go_ret
  exact ⟨ret_no hno.out, HW0.out.2⟩
 ·have d1 : decide (M.states < 1) = false := decide_eq_false h1
  by_cases h2 : 4000 < M.states
  ·have d2 : decide (4000 < M.states) = true := decide_eq_true h2
   have hno := Lib.hid (show ¬ ValidM M from fun h => by have := h.most; omega)
   go_wp2
   go_ret
   exact ⟨ret_no hno.out, HW0.out.2⟩
  ·have d2 : decide (4000 < M.states) = false := decide_eq_false h2
   by_cases h3 : StateOk M.states M.start
   ·have q3 := state_yes M.start M.states w.heap.size W0 h3 m0
    have Q3 := Lib.hid q3
    have H3 := Lib.hid h3
    clear q3 h3
    by_cases h4 : 20000 < M.arcs.length
    ·have d4 : decide ((20000 : Int) < (M.arcs.length : Int)) = true := decide_eq_true (by omega)
     have hno := Lib.hid (show ¬ ValidM M from fun h => by have := h.arcsLen; omega)
     go_wp2_with (go_at_call 33; refine Q3.out.mono ?_; rintro e w' ⟨rfl, rfl⟩)
     go_ret
     exact ⟨ret_no hno.out, HW0.out.2⟩
    ·have d4 : decide ((20000 : Int) < (M.arcs.length : Int)) = false := decide_eq_false (by omega)
     have H4 := Lib.hid h4
     clear h4
     go_wp2_with (go_at_call 33; refine Q3.out.mono ?_; rintro e w' ⟨rfl, hwe⟩; have hwe := hwe.symm; subst hwe)
     clear Q3 d1 d2 d4 m0 m1 m2 m3
     go_loopw [34] (fun i wr => ∃ k : Nat, i = .int .i64 k ∧ k ≤ M.final.length ∧ FinPart M k ∧ Below W0.heap.size W0 wr) (fun i _ => M.final.length - (intOf i).toNat)
     case atStart => exact ⟨0, rfl, Nat.zero_le _, FinPart.zero M, Below.refl _ _⟩
     case round =>
      obtain ⟨k, rfl, hkl, hP, hbw⟩ := hrel
      have HP := Lib.hid hP
      clear hP
      obtain ⟨m0, m1, m2, m3⟩ := HM.out wr hbw
      have hbW := HW0.out.2.trans (hbw.mono HW0.out.2.size)
      by_cases hk : k < M.final.length
      ·obtain ⟨b, off, rfl, x0⟩ := HF.out wr hbw k hk
       obtain ⟨x, hxe⟩ : ∃ x, x = M.final[k] := ⟨_, rfl⟩
       rw [← hxe] at x0
       have Hxe := Lib.hid (show M.final[k]? = some x by rw [hxe]; exact List.getElem?_eq_getElem hk)
       clear hxe
       by_cases hx : StateOk M.states x
       ·have Hx := Lib.hid hx
        have Q3 := Lib.hid (state_yes x M.states w.heap.size wr hx m0)
        clear hx
        rcases Nat.eq_zero_or_pos k with hk0 | hk0
        ·have d0 : decide (0 < k) = false := decide_eq_false (by omega)
         have Hk0 := Lib.hid hk0
         clear hk0
         go_wp2_with (go_at_call 33; refine Q3.out.mono ?_; rintro e w' ⟨rfl, hwe⟩; have hwe := hwe.symm; subst hwe)
         exact ⟨⟨k + 1, by go_num, by omega, HP.out.snoc Hxe.out Hx.out (fun y h0 => absurd Hk0.out (by omega)), hbw⟩, by simp [intOf]; omega⟩
        ·obtain ⟨b', off', e', y0⟩ := HF.out wr hbw (k - 1) (by omega)
         cases e'
         obtain ⟨y, hye⟩ : ∃ y, y = M.final[k - 1] := ⟨_, rfl⟩
         rw [← hye] at y0
         have Hye := Lib.hid (show M.final[k - 1]? = some y by rw [hye]; exact List.getElem?_eq_getElem (by omega))
         clear hye
         obtain ⟨p, rfl⟩ : ∃ p, k = p + 1 := ⟨k - 1, by omega⟩
         have d0 : decide ((0 : Int) < (p : Int) + 1) = true := decide_eq_true (by omega)
         have hwp : IntKind.i64.wrap (p : Int) = p := IntWalk.i64_in _ (by omega)
         have hps : p < M.final.length := by omega
         simp only [Nat.add_sub_cancel] at y0
         by_cases hxy : x ≤ y
         ·have d5 : decide (x ≤ y) = true := decide_eq_true hxy
          have hno := Lib.hid (show ¬ ValidM M from fun h => by
           have := pair_last h.inc hk0 Hxe.out Hye.out
           omega)
          go_wp2_with (go_at_call 33; refine Q3.out.mono ?_; rintro e w' ⟨rfl, hwe⟩; have hwe := hwe.symm; subst hwe)
          go_ret
          exact ⟨ret_no hno.out, hbW⟩
         ·have d5 : decide (x ≤ y) = false := decide_eq_false hxy
          go_wp2_with (go_at_call 33; refine Q3.out.mono ?_; rintro e w' ⟨rfl, hwe⟩; have hwe := hwe.symm; subst hwe)
          refine ⟨⟨p + 1 + 1, by go_num, by omega, HP.out.snoc Hxe.out Hx.out (fun z h0 hz => ?_), hbw⟩, by simp [intOf]; omega⟩
          rw [Hye.out] at hz; cases hz; omega
       ·have Q3 := Lib.hid (state_no x M.states w.heap.size wr hx m0)
        have hno := Lib.hid (show ¬ ValidM M from fun h => hx (h.final x (List.mem_of_getElem? Hxe.out)))
        clear hx
        go_wp2_with (go_at_call 33; refine Q3.out.mono ?_; rintro e w' ⟨rfl, hwe⟩; have hwe := hwe.symm; subst hwe)
        go_ret
        exact ⟨ret_no hno.out, hbW⟩
      ·obtain rfl : k = M.final.length := by omega
       have HFin := Lib.hid HP.out.all
       clear HP
       go_wp2_with fail
       obtain ⟨wo, rfl⟩ : ∃ wo : World, wo = wr := ⟨_, rfl⟩
       go_loopw [61] (fun i wr => ∃ k : Nat, i = .int .i64 k ∧ k ≤ M.arcs.length ∧ ArcPart M k ∧ Below W0.heap.size W0 wr) (fun i _ => M.arcs.length - (intOf i).toNat)
       case atStart => exact ⟨0, rfl, Nat.zero_le _, ArcPart.zero M, hbw⟩
       case round =>
        clear hbw hbW m0 m1 m2 m3
        obtain ⟨k, rfl, hkl, hP, hbw⟩ := hrel
        have HP := Lib.hid hP
        clear hP
        obtain ⟨m0, m1, m2, m3⟩ := HM.out wr hbw
        have hbW := HW0.out.2.trans (hbw.mono HW0.out.2.size)
        by_cases hk : k < M.arcs.length
        ·obtain ⟨b, off, rfl, x0, x1, x2, x3⟩ := HA.out wr hbw k hk
         obtain ⟨x, hxe⟩ : ∃ x, x = M.arcs[k] := ⟨_, rfl⟩
         rw [← hxe] at x0 x1 x2 x3
         have Hxe := Lib.hid (show M.arcs[k]? = some x by rw [hxe]; exact List.getElem?_eq_getElem hk)
         clear hxe
         obtain ⟨wo, rfl⟩ : ∃ wo : World, wo = wr := ⟨_, rfl⟩
         go_upto_region 14 with (fail)
         obtain ⟨W1, hW1⟩ : ∃ W1 : World, W1 = wo.alloc (.cells #[.int .i64 x.frm, .int .i64 x.inp, .int .i64 x.out, .int .i64 x.to] 49) := ⟨_, rfl⟩
         rw [← hW1]
         have hb1 : Below wo.heap.size wo W1 := by rw [hW1]; exact (Below.refl _ _).alloc (Nat.le_refl _) _
         have hk1 : Blk W1 wo.heap.size #[.int .i64 x.frm, .int .i64 x.inp, .int .i64 x.out, .int .i64 x.to] 49 := by rw [hW1]; exact Blk.new _ _ _
         have hbw1 := hbw.trans (hb1.mono hbw.size)
         clear hW1 x0 x1 x2 x3 m0 m1 m2 m3
         obtain ⟨m0, m1, m2, m3⟩ := HM.out W1 hbw1
         have a0 := hk1.cell 0
         have a1 := hk1.cell 1
         have a2 := hk1.cell 2
         have a3 := hk1.cell 3
         simp only [List.getElem?_toArray, List.getElem?_cons_zero, List.getElem?_cons_succ] at a0 a1 a2 a3
         have hbW1 := HW0.out.2.trans (hbw1.mono HW0.out.2.size)
         clear hk1 hb1 hbw hbW
         have hin := List.mem_of_getElem? Hxe.out
         have Hin := Lib.hid hin
         clear hin
         by_cases p1 : StateOk M.states x.frm
         ·by_cases p2 : StateOk M.states x.to
          ·by_cases p3 : SymOk x.inp
           ·by_cases p4 : SymOk x.out
            ·have hok := Lib.hid (show StateOk M.states x.frm ∧ StateOk M.states x.to ∧ SymOk x.inp ∧ SymOk x.out from ⟨p1, p2, p3, p4⟩)
             rcases Nat.eq_zero_or_pos k with hk0 | hk0
             ·have d0 : decide (0 < k) = false := decide_eq_false (by omega)
              have Hk0 := Lib.hid hk0
              clear hk0
              go_quiet ((first | (go_at_call 33; exact Calls.quiet_of_same (state_yes _ _ _ _ (by assumption) (by assumption))) | (go_at_call 34; exact Calls.quiet_of_same (symbol_yes _ _ (by assumption)))))
              go_wp2
              exact ⟨⟨k + 1, by go_num, by omega, HP.out.snoc Hxe.out hok.out (fun y h0 => absurd Hk0.out (by omega)), below_drewN hbw1 _⟩, by simp [intOf]; omega⟩
             ·obtain ⟨b', off', e', y0, y1, y2, y3⟩ := HA.out W1 hbw1 (k - 1) (by omega)
              cases e'
              obtain ⟨y, hye⟩ : ∃ y, y = M.arcs[k - 1] := ⟨_, rfl⟩
              rw [← hye] at y0 y1 y2 y3
              have Hye := Lib.hid (show M.arcs[k - 1]? = some y by rw [hye]; exact List.getElem?_eq_getElem (by omega))
              clear hye
              obtain ⟨p, rfl⟩ : ∃ p, k = p + 1 := ⟨k - 1, by omega⟩
              have d0 : decide ((0 : Int) < (p : Int) + 1) = true := decide_eq_true (by omega)
              have hwp : IntKind.i64.wrap (p : Int) = p := IntWalk.i64_in _ (by omega)
              have hps : p < M.arcs.length := by omega
              simp only [Nat.add_sub_cancel] at y0 y1 y2 y3
              have hsx : Small x := small_of h2 hok.out
              refine wp_region_still_tail 37 (by kernel_rfl) (by kernel_rfl) ?_
              simp only [List.take_succ_cons, List.take_zero, List.drop_succ_cons, List.drop_zero]
              repeat (first | still_step | still_call (state_yes _ _ _ _ (by assumption) (by assumption)) | still_call (symbol_yes _ _ (by assumption)))
              refine wpStill_nil ?_
              change wpList _ _ _ _ _ W1.drew
              clear hwp y0 y1 y2 y3 a0 a1 a2 a3 m0 m1 m2 m3
              obtain ⟨wk, hwk⟩ : ∃ wk, W1.drew = wk := ⟨_, rfl⟩
              have hbk : Below W0.heap.size W0 wk := by rw [← hwk]; exact hbw1.drew
              rw [hwk]
              clear hwk hbw1 hbW1
              have hsy : Small y := small_of h2 (HP.out.1 p y (by omega) Hye.out)
              have hneg := subA_lt y x
              have HQ := compare_below y x hsy hsx wk
              obtain ⟨z, hz⟩ : ∃ z, subA y x = z := ⟨_, rfl⟩
              rw [hz] at HQ hneg
              have HQ := Lib.hid HQ
              have Hneg := Lib.hid hneg
              clear hz hneg hsx hsy
              by_cases hz0 : z < 0
              ·have hd : decide (0 ≤ z) = false := decide_eq_false (by omega)
               have hyx := Lib.hid (Hneg.out.1 hz0)
               clear hz0
               go_wp2_with (go_at_call 35; refine HQ.out.mono ?_; rintro e w1 ⟨rfl, hb1⟩)
               refine ⟨⟨p + 1 + 1, by go_num, by omega, HP.out.snoc Hxe.out hok.out (fun u h0 hu => ?_), hbk.trans (hb1.mono hbk.size)⟩, by simp [intOf]; omega⟩
               rw [Nat.add_sub_cancel, ← Nat.add_sub_cancel (n := p) (m := 1), Hye.out] at hu
               cases hu; exact hyx.out
              ·have hd : decide (0 ≤ z) = true := decide_eq_true (by omega)
               have hno := Lib.hid (show ¬ ValidM M from fun h => hz0 (Hneg.out.2 (pair_last h.arcsInc hk0 Hxe.out Hye.out)))
               clear hz0
               go_wp2_with (go_at_call 35; refine HQ.out.mono ?_; rintro e w1 ⟨rfl, hb1⟩)
               have hbF := HW0.out.2.trans ((hbk.trans (hb1.mono hbk.size)).mono HW0.out.2.size)
               go_ret
               exact ⟨ret_no hno.out, hbF⟩
            ·have hno := Lib.hid (show ¬ ValidM M from fun h => p4 (h.arcs x Hin.out).2.2.2)
             go_quiet ((first | (go_at_call 33; exact Calls.quiet_of_same (state_yes _ _ _ _ (by assumption) (by assumption))) | (go_at_call 34; exact Calls.quiet_of_same (symbol_yes _ _ (by assumption))) | (go_at_call 34; exact Calls.quiet_of_same (symbol_no _ _ (by assumption)))))
             go_wp2
             go_ret
             exact ⟨ret_no hno.out, below_drewN hbW1 _⟩
           ·have hno := Lib.hid (show ¬ ValidM M from fun h => p3 (h.arcs x Hin.out).2.2.1)
            go_quiet ((first | (go_at_call 33; exact Calls.quiet_of_same (state_yes _ _ _ _ (by assumption) (by assumption))) | (go_at_call 34; exact Calls.quiet_of_same (symbol_no _ _ (by assumption)))))
            go_wp2
            go_ret
            exact ⟨ret_no hno.out, below_drewN hbW1 _⟩
          ·have hno := Lib.hid (show ¬ ValidM M from fun h => p2 (h.arcs x Hin.out).2.1)
           go_quiet ((first | (go_at_call 33; exact Calls.quiet_of_same (state_yes _ _ _ _ (by assumption) (by assumption))) | (go_at_call 33; exact Calls.quiet_of_same (state_no _ _ _ _ (by assumption) (by assumption)))))
           go_wp2
           go_ret
           exact ⟨ret_no hno.out, below_drewN hbW1 _⟩
         ·have hno := Lib.hid (show ¬ ValidM M from fun h => p1 (h.arcs x Hin.out).1)
          go_quiet ((first | (go_at_call 33; exact Calls.quiet_of_same (state_no _ _ _ _ (by assumption) (by assumption)))))
          go_wp2
          go_ret
          exact ⟨ret_no hno.out, below_drewN hbW1 _⟩
        ·obtain rfl : k = M.arcs.length := by omega
         have hyes := Lib.hid (show ValidM M from ⟨by omega, h2, H3.out, by have := H4.out; omega, HFin.out.1, HFin.out.2, HP.out.all.1, HP.out.all.2⟩)
         go_wp2
         go_ret
         exact ⟨ret_yes hyes.out, hbW⟩
   ·have q3 := state_no M.start M.states w.heap.size W0 h3 m0
    have Q3 := Lib.hid q3
    have hno := Lib.hid (show ¬ ValidM M from fun h => h3 h.start)
    clear q3 h3
    go_wp2_with (go_at_call 33; refine Q3.out.mono ?_; rintro e w' ⟨rfl, rfl⟩)
    go_ret
    exact ⟨ret_no hno.out, HW0.out.2⟩
end Go.Proofs.YtabocamjaecaaaaGreatDoor
