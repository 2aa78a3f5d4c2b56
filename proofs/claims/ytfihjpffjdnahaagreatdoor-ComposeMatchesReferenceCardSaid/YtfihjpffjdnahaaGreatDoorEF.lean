/- T5 · EF -/
import Derived.Test.YtfihjpffjdnahaaGreatDoorT0
import Derived.Test.YtfihjpffjdnahaaGreatDoorK4
import Derived.Test.YtfihjpffjdnahaaGreatDoorGE
/- Plain words: marks that are spread pass by pass, as the reference does it. No program in sight. -/
namespace Go.Proofs.YtfihjpffjdnahaaGreatDoor
open Go Classical

structure Rch (l : List (Int × Int)) (xs ys : List Bool) : Prop where
 len : ys.length = xs.length
 up : ∀ u, Mk xs u → Mk ys u
 new : ∀ u, Mk ys u → ∃ s : Nat, Mk xs s ∧ WayR (Pr l) s u
theorem Rch.start (l : List (Int × Int)) (xs : List Bool) : Rch l xs xs := ⟨rfl, fun _ h => h, fun u h => ⟨u, h, .inl rfl⟩⟩
theorem Rch.set {l : List (Int × Int)} {xs ys : List Bool} (h : Rch l xs ys) {a b : Nat} (ha : Mk ys a) (hb : b < ys.length) (hp : Pr l a b) : Rch l xs (ys.set b true) := by
 refine ⟨by rw [List.length_set, h.len], fun u hu => (mk_set hb).2 (.inr (h.up u hu)), fun u hu => ?_⟩
 rcases (mk_set hb).1 hu with rfl | hu
 ·obtain ⟨s, hs, hw⟩ := h.new a ha
  exact ⟨s, hs, wayR_trans hw (.inr (.one hp))⟩
 ·exact h.new u hu
/-- A pass that marks nothing new ends it. -/
theorem Rch.done {l : List (Int × Int)} {xs ys : List Bool} (h : Rch l xs ys) (hl : ∀ p ∈ l, 0 ≤ p.1 ∧ 0 ≤ p.2) (hc : ∀ p ∈ l, Mk ys p.1.toNat → Mk ys p.2.toNat) : Spread l xs ys := by
 refine ⟨h.len, fun u => ⟨h.new u, ?_⟩⟩
 have hw : ∀ (s : Nat) (v : Int), Mk ys s → Way (Pr l) s v → 0 ≤ v ∧ Mk ys v.toNat := fun s v hs hv => by
  induction hv with
  | one h1 => exact ⟨(hl _ h1).2, hc _ h1 (by simpa using hs)⟩
  | more _ h1 ih =>
   obtain ⟨i1, i2⟩ := ih
   exact ⟨(hl _ h1).2, hc _ h1 i2⟩
 rintro ⟨s, hs, e | hv⟩
 ·obtain rfl : s = u := by omega
  exact h.up s hs
 ·have := (hw s u (h.up s hs) hv).2
  simpa using this
end Go.Proofs.YtfihjpffjdnahaaGreatDoor

/- Walks of the reference's machines (gazetteerref12): symbol, IsFinal, Valid. -/
namespace Go.Proofs.YtfihjpffjdnahaaGreatDoor
open Go.RowKit Classical
attribute [local go_sem] undef_bool undef_bool'

set_option maxHeartbeats 400000 in
theorem symbol12_any (z : Int) (w : World) :
  Calls Tryz.prog 48 #[.int .i64 z] w fun e w' => e = .returned (.bool (decide (SymOk z))) ∧ w' = w := by
 go_enter Tryz.func48, Tryz.ntmps48
 by_cases h0 : z = 0
 ·have d0 : (z == 0) = true := by simp [h0]
  have Hs := Lib.hid (decide_eq_true (show SymOk z from .inl h0))
  clear h0
  go_wp2_with fail
  go_ret
  exact ⟨by rw [Hs.out]; simp, rfl⟩
 ·have d0 : (z == 0) = false := by simp [h0]
  by_cases h1 : 33 ≤ z
  ·have d1 : decide (33 ≤ z) = true := decide_eq_true h1
   by_cases h2 : z ≤ 126
   ·have d2 : decide (z ≤ 126) = true := decide_eq_true h2
    have Hs := Lib.hid (decide_eq_true (show SymOk z from .inr ⟨h1, h2⟩))
    clear h0 h1 h2
    go_wp2_with fail
    go_ret
    exact ⟨by rw [Hs.out]; simp, rfl⟩
   ·have d2 : decide (z ≤ 126) = false := decide_eq_false h2
    have Hs := Lib.hid (decide_eq_false (show ¬ SymOk z from fun h => h.elim h0 (fun h => h2 h.2)))
    clear h0 h1 h2
    go_wp2_with fail
    go_ret
    exact ⟨by rw [Hs.out]; simp, rfl⟩
  ·have d1 : decide (33 ≤ z) = false := decide_eq_false h1
   have Hs := Lib.hid (decide_eq_false (show ¬ SymOk z from fun h => h.elim h0 (fun h => h1 h.1)))
   clear h0 h1
   go_wp2_with fail
   go_ret
   exact ⟨by rw [Hs.out]; simp, rfl⟩
theorem sym12_yes (z : Int) (w : World) (hz : SymOk z) : Calls Tryz.prog 48 #[.int .i64 z] w fun e w' => e = .returned (.bool true) ∧ w' = w :=
 (symbol12_any z w).mono fun _ _ h => ⟨by rw [h.1, decide_eq_true hz], h.2⟩
theorem sym12_no (z : Int) (w : World) (hz : ¬ SymOk z) : Calls Tryz.prog 48 #[.int .i64 z] w fun e w' => e = .returned (.bool false) ∧ w' = w :=
 (symbol12_any z w).mono fun _ _ h => ⟨by rw [h.1, decide_eq_false hz], h.2⟩

set_option maxRecDepth 100000 in
set_option maxHeartbeats 1000000 in
theorem IsFinal12_any (M : Mach) (v : Value) (s : Int) (w : World) (h : MachAt w w.heap.size v M) :
  Calls Tryz.prog 29 #[v, .int .i64 s] w fun e w' => e = .returned (.bool (decide (s ∈ M.final))) ∧ Below w.heap.size w w' := by
 obtain ⟨fa, fc, aa, ac, rfl, hfl, hal, hf, -⟩ := h
 unfold maxLen at hfl hal
 obtain ⟨W, hW⟩ : ∃ W : World, W = w.alloc (.cells #[.int .i64 M.states, .int .i64 M.start, .slice fa M.final.length fc, .slice aa M.arcs.length ac] 25) := ⟨_, rfl⟩
 have hb : Below w.heap.size w W := by rw [hW]; exact (Below.refl _ _).alloc (Nat.le_refl _) _
 have hB : Blk W w.heap.size #[.int .i64 M.states, .int .i64 M.start, .slice fa M.final.length fc, .slice aa M.arcs.length ac] 25 := by rw [hW]; exact Blk.new _ _ _
 have m2 : W.cell? ⟨w.heap.size, 2, none⟩ = some (.slice fa M.final.length fc) := hB.cell 2
 have H := Lib.hid (hf.below hb (Nat.le_refl _))
 have HW := Lib.hid hW
 have Hb := Lib.hid hb
 clear hW hb hB hf
 go_enter Tryz.func29, Tryz.ntmps29
 go_upto_region 1 with (fail)
 rw [← HW.out]
 clear HW
 go_wp2_with fail
 go_loopw [5] (fun s5 wx => ∃ k : Nat, k ≤ M.final.length ∧ s5 = .int .i64 k ∧ s ∉ M.final.take k ∧ wx = W) (fun s5 _ => M.final.length - (intOf s5).toNat)
 case atStart => exact ⟨0, Nat.zero_le _, rfl, by simp, rfl⟩
 case round =>
  obtain ⟨k, hk, rfl, hn, rfl⟩ := hrel
  by_cases hkl : k < M.final.length
  ·obtain ⟨b, off, rfl, -, hc⟩ := H.out.nums (by omega)
   have x0 := hc k hkl
   have htk : M.final.take (k + 1) = M.final.take k ++ [M.final[k]] := by rw [List.take_add_one, List.getElem?_eq_getElem hkl]; rfl
   have hmem : M.final[k] ∈ M.final := List.getElem_mem hkl
   obtain ⟨x, hx⟩ : ∃ x, M.final[k] = x := ⟨_, rfl⟩
   rw [hx] at x0 htk hmem
   have HK := Lib.hid (And.intro hn (And.intro htk hmem))
   clear hn htk hmem hx hc
   by_cases he : x = s
   ·have d1 : (x == s) = true := by simp [he]
    have Hf := Lib.hid (decide_eq_true (show s ∈ M.final by rw [← he]; exact HK.out.2.2))
    clear he
    go_wp2_with fail
    go_ret
    exact ⟨by rw [Hf.out]; simp, Hb.out⟩
   ·have d1 : (x == s) = false := by simp [he]
    have Hf := Lib.hid (show s ∉ M.final.take (k + 1) from fun h => by
     rw [HK.out.2.1] at h
     rcases List.mem_append.1 h with h | h
     ·exact HK.out.1 h
     ·exact he (List.mem_singleton.1 h).symm)
    clear he
    go_wp2_with fail
    exact ⟨⟨k + 1, by omega, by go_num, Hf.out, by first | trivial | rfl⟩, by simp [intOf]; omega⟩
  ·obtain rfl : k = M.final.length := by omega
   have Hf := Lib.hid (decide_eq_false (show s ∉ M.final by rw [List.take_length] at hn; exact hn))
   clear hn
   go_wp2_with fail
   go_ret
   exact ⟨by rw [Hf.out]; simp, Hb.out⟩

set_option maxRecDepth 100000 in
set_option maxHeartbeats 4000000 in
theorem Valid12_any (M : Mach) (v : Value) (w : World) (h : MachAt w w.heap.size v M) :
  Calls Tryz.prog 26 #[v] w fun e w' => e = .returned (.bool (decide (ValidM M))) ∧ Below w.heap.size w w' := by
 obtain ⟨fa, fc, aa, ac, rfl, hfl, hal, hf, ha⟩ := h
 have hfl' := hfl
 unfold maxLen at hfl hal
 obtain ⟨W0, hW0⟩ : ∃ W0 : World, W0 = w.alloc (.cells #[.int .i64 M.states, .int .i64 M.start, .slice fa M.final.length fc, .slice aa M.arcs.length ac] 25) := ⟨_, rfl⟩
 have hw0 : Below w.heap.size w W0 := by rw [hW0]; exact (Below.refl _ _).alloc (Nat.le_refl _) _
 have hB0 : Blk W0 w.heap.size #[.int .i64 M.states, .int .i64 M.start, .slice fa M.final.length fc, .slice aa M.arcs.length ac] 25 := by rw [hW0]; exact Blk.new _ _ _
 have hlt0 := hB0.lt
 have HM := Lib.hid (fun (wr : World) (hbw : Below W0.heap.size W0 wr) => (show wr.cell? ⟨w.heap.size, 0, none⟩ = some (.int .i64 M.states) ∧ wr.cell? ⟨w.heap.size, 1, none⟩ = some (.int .i64 M.start) ∧ wr.cell? ⟨w.heap.size, 2, none⟩ = some (.slice fa M.final.length fc) ∧ wr.cell? ⟨w.heap.size, 3, none⟩ = some (.slice aa M.arcs.length ac) from
  ⟨(hB0.below hbw hlt0).cell 0, (hB0.below hbw hlt0).cell 1, (hB0.below hbw hlt0).cell 2, (hB0.below hbw hlt0).cell 3⟩))
 have HF := Lib.hid (fun (wr : World) (hbw : Below W0.heap.size W0 wr) (k : Nat) (hk : k < M.final.length) => by
  obtain ⟨b, off, e, hb, hc⟩ := hf.nums (by omega)
  exact (⟨b, off, e, ((hw0.trans (hbw.mono hw0.size)).cell (p := ⟨b, off + k, none⟩) hb).trans (hc k hk)⟩ : ∃ b off, fa = some ⟨b, off, none⟩ ∧ wr.cell? ⟨b, off + k, none⟩ = some (.int .i64 M.final[k])))
 have HA := Lib.hid (fun (wr : World) (hbw : Below W0.heap.size W0 wr) (k : Nat) (hk : k < M.arcs.length) => by
  obtain ⟨b, off, e, hb, hc⟩ := ha.arcs (by omega)
  have hx := hw0.trans (hbw.mono hw0.size)
  exact (⟨b, off, e, (hx.cell (p := ⟨b, off + k * 4, none⟩) hb).trans (hc k hk).1, (hx.cell (p := ⟨b, off + k * 4 + 1, none⟩) hb).trans (hc k hk).2.1,
   (hx.cell (p := ⟨b, off + k * 4 + 2, none⟩) hb).trans (hc k hk).2.2.1, (hx.cell (p := ⟨b, off + k * 4 + 3, none⟩) hb).trans (hc k hk).2.2.2⟩ :
   ∃ b off, aa = some ⟨b, off, none⟩ ∧ wr.cell? ⟨b, off + k * 4, none⟩ = some (.int .i64 M.arcs[k].frm) ∧ wr.cell? ⟨b, off + k * 4 + 1, none⟩ = some (.int .i64 M.arcs[k].inp) ∧ wr.cell? ⟨b, off + k * 4 + 2, none⟩ = some (.int .i64 M.arcs[k].out) ∧ wr.cell? ⟨b, off + k * 4 + 3, none⟩ = some (.int .i64 M.arcs[k].to)))
 have HW0 := Lib.hid (And.intro hW0 hw0)
 obtain ⟨m0, m1, m2, m3⟩ := HM.out W0 (Below.refl _ _)
 clear hW0 hw0 hB0 hf ha
 go_enter Tryz.func26, Tryz.ntmps26
 go_upto_region 1 with (fail)
 rw [← HW0.out.1]
 by_cases h1 : M.states < 1
 ·have d1 : decide (M.states < 1) = true := decide_eq_true h1
  have hno := Lib.hid (show ¬ ValidM M from fun h => by have := h.one; omega)
  go_wp2_with fail
  go_ret
  exact ⟨ret_no hno.out, HW0.out.2⟩
 have d1 : decide (M.states < 1) = false := decide_eq_false h1
 by_cases h2 : 4000 < M.states
 ·have d2 : decide (4000 < M.states) = true := decide_eq_true h2
  have hno := Lib.hid (show ¬ ValidM M from fun h => by have := h.most; omega)
  go_wp2_with fail
  go_ret
  exact ⟨ret_no hno.out, HW0.out.2⟩
 have d2 : decide (4000 < M.states) = false := decide_eq_false h2
 by_cases h3 : M.start < 0
 ·have d3 : decide (M.start < 0) = true := decide_eq_true h3
  have hno := Lib.hid (show ¬ ValidM M from fun h => by have := h.start.1; omega)
  go_wp2_with fail
  go_ret
  exact ⟨ret_no hno.out, HW0.out.2⟩
 have d3 : decide (M.start < 0) = false := decide_eq_false h3
 by_cases h3' : M.states ≤ M.start
 ·have d3' : decide (M.states ≤ M.start) = true := decide_eq_true h3'
  have hno := Lib.hid (show ¬ ValidM M from fun h => by have := h.start.2; omega)
  go_wp2_with fail
  go_ret
  exact ⟨ret_no hno.out, HW0.out.2⟩
 have d3' : decide (M.states ≤ M.start) = false := decide_eq_false h3'
 have H3 := Lib.hid (show StateOk M.states M.start from ⟨by omega, by omega⟩)
 clear h3 h3'
 by_cases h4 : 20000 < M.arcs.length
 ·have d4 : decide ((20000 : Int) < (M.arcs.length : Int)) = true := decide_eq_true (by omega)
  have hno := Lib.hid (show ¬ ValidM M from fun h => by have := h.arcsLen; omega)
  go_wp2_with fail
  go_ret
  exact ⟨ret_no hno.out, HW0.out.2⟩
 have d4 : decide ((20000 : Int) < (M.arcs.length : Int)) = false := decide_eq_false (by omega)
 have H4 := Lib.hid h4
 clear h4
 go_wp2_with fail
 clear d1 d2 d3 d3' d4 m0 m1 m2 m3
 go_loopw [3] (fun i wr => ∃ k : Nat, i = .int .i64 k ∧ k ≤ M.final.length ∧ FinPart M k ∧ Below W0.heap.size W0 wr) (fun i _ => M.final.length - (intOf i).toNat)
 case atStart => exact ⟨0, rfl, Nat.zero_le _, FinPart.zero M, Below.refl _ _⟩
 case round =>
  obtain ⟨k, rfl, hkl, hP, hbw⟩ := hrel
  have HP := Lib.hid hP
  clear hP
  obtain ⟨m0, m1, m2, m3⟩ := HM.out wr hbw
  have hbW := HW0.out.2.trans (hbw.mono HW0.out.2.size)
  by_cases hk : k < M.final.length
  ·obtain ⟨b, off, rfl, x0⟩ := HF.out wr hbw k hk
   obtain ⟨x, hxe⟩ : ∃ x, x = M.final[k] := ⟨_, rfl⟩
   rw [← hxe] at x0
   have Hxe := Lib.hid (show M.final[k]? = some x by rw [hxe]; exact List.getElem?_eq_getElem hk)
   clear hxe
   by_cases hx : StateOk M.states x
   ·have Hx := Lib.hid hx
    have e1 : decide (x < 0) = false := decide_eq_false (by have := hx.1; omega)
    have e2 : decide (M.states ≤ x) = false := decide_eq_false (by have := hx.2; omega)
    clear hx
    rcases Nat.eq_zero_or_pos k with hk0 | hk0
    ·have d0 : decide (0 < k) = false := decide_eq_false (by omega)
     have Hk0 := Lib.hid hk0
     clear hk0
     go_wp2_with fail
     go_quiet (fail)
     go_wp2
     exact ⟨⟨k + 1, by go_num, by omega, HP.out.snoc Hxe.out Hx.out (fun y h0 => absurd Hk0.out (by omega)), below_drewN hbw _⟩, by simp [intOf]; omega⟩
    ·obtain ⟨b', off', e', y0⟩ := HF.out wr hbw (k - 1) (by omega)
     cases e'
     obtain ⟨y, hye⟩ : ∃ y, y = M.final[k - 1] := ⟨_, rfl⟩
     rw [← hye] at y0
     have Hye := Lib.hid (show M.final[k - 1]? = some y by rw [hye]; exact List.getElem?_eq_getElem (by omega))
     clear hye
     obtain ⟨p, rfl⟩ : ∃ p, k = p + 1 := ⟨k - 1, by omega⟩
     have d0 : decide ((0 : Int) < (p : Int) + 1) = true := decide_eq_true (by omega)
     have hwp : IntKind.i64.wrap (p : Int) = p := IntWalk.i64_in _ (by omega)
     have hps : p < M.final.length := by omega
     simp only [Nat.add_sub_cancel] at y0
     by_cases hxy : x ≤ y
     ·have d5 : decide (x ≤ y) = true := decide_eq_true hxy
      have hno := Lib.hid (show ¬ ValidM M from fun h => by
       have := pair_last h.inc hk0 Hxe.out Hye.out
       omega)
      go_wp2_with fail
      go_quiet (fail)
      go_wp2
      go_ret
      exact ⟨ret_no hno.out, below_drewN hbW _⟩
     ·have d5 : decide (x ≤ y) = false := decide_eq_false hxy
      go_wp2_with fail
      go_quiet (fail)
      go_wp2
      refine ⟨⟨p + 1 + 1, by go_num, by omega, HP.out.snoc Hxe.out Hx.out (fun z h0 hz => ?_), below_drewN hbw _⟩, by simp [intOf]; omega⟩
      rw [Hye.out] at hz; cases hz; omega
   ·have hno := Lib.hid (show ¬ ValidM M from fun h => hx (h.final x (List.mem_of_getElem? Hxe.out)))
    by_cases hx0 : x < 0
    ·have e1 : decide (x < 0) = true := decide_eq_true hx0
     clear hx
     go_wp2_with fail
     go_quiet (fail)
     go_wp2
     go_ret
     exact ⟨ret_no hno.out, below_drewN hbW _⟩
    ·have e1 : decide (x < 0) = false := decide_eq_false hx0
     have e2 : decide (M.states ≤ x) = true := decide_eq_true (by unfold StateOk at hx; omega)
     clear hx
     go_wp2_with fail
     go_quiet (fail)
     go_wp2
     go_ret
     exact ⟨ret_no hno.out, below_drewN hbW _⟩
  ·obtain rfl : k = M.final.length := by omega
   have HFin := Lib.hid HP.out.all
   clear HP
   go_wp2_with fail
   obtain ⟨wo, rfl⟩ : ∃ wo : World, wo = wr := ⟨_, rfl⟩
   go_loopw [4] (fun i wr => ∃ k : Nat, i = .int .i64 k ∧ k ≤ M.arcs.length ∧ ArcPart M k ∧ Below W0.heap.size W0 wr) (fun i _ => M.arcs.length - (intOf i).toNat)
   case atStart => exact ⟨0, rfl, Nat.zero_le _, ArcPart.zero M, hbw⟩
   case round =>
    clear hbw hbW m0 m1 m2 m3
    obtain ⟨k, rfl, hkl, hP, hbw⟩ := hrel
    have HP := Lib.hid hP
    clear hP
    obtain ⟨m0, m1, m2, m3⟩ := HM.out wr hbw
    have hbW := HW0.out.2.trans (hbw.mono HW0.out.2.size)
    by_cases hk : k < M.arcs.length
    ·obtain ⟨b, off, rfl, x0, x1, x2, x3⟩ := HA.out wr hbw k hk
     obtain ⟨x, hxe⟩ : ∃ x, x = M.arcs[k] := ⟨_, rfl⟩
     rw [← hxe] at x0 x1 x2 x3
     have Hxe := Lib.hid (show M.arcs[k]? = some x by rw [hxe]; exact List.getElem?_eq_getElem hk)
     clear hxe
     obtain ⟨wo, rfl⟩ : ∃ wo : World, wo = wr := ⟨_, rfl⟩
     go_upto_region 12 with (fail)
     obtain ⟨W1, hW1⟩ : ∃ W1 : World, W1 = wo.alloc (.cells #[.int .i64 x.frm, .int .i64 x.inp, .int .i64 x.out, .int .i64 x.to] 40) := ⟨_, rfl⟩
     rw [← hW1]
     have hb1 : Below wo.heap.size wo W1 := by rw [hW1]; exact (Below.refl _ _).alloc (Nat.le_refl _) _
     have hk1 : Blk W1 wo.heap.size #[.int .i64 x.frm, .int .i64 x.inp, .int .i64 x.out, .int .i64 x.to] 40 := by rw [hW1]; exact Blk.new _ _ _
     have hbw1 := hbw.trans (hb1.mono hbw.size)
     clear hW1 x0 x1 x2 x3 m0 m1 m2 m3
     obtain ⟨m0, m1, m2, m3⟩ := HM.out W1 hbw1
     have a0 := hk1.cell 0
     have a1 := hk1.cell 1
     have a2 := hk1.cell 2
     have a3 := hk1.cell 3
     simp only [List.getElem?_toArray, List.getElem?_cons_zero, List.getElem?_cons_succ] at a0 a1 a2 a3
     have hbW1 := HW0.out.2.trans (hbw1.mono HW0.out.2.size)
     clear hk1 hb1 hbw hbW
     have hin := List.mem_of_getElem? Hxe.out
     have Hin := Lib.hid hin
     clear hin
     have f1 : StateOk M.states x.frm → decide (x.frm < 0) = false ∧ decide (M.states ≤ x.frm) = false := fun h => ⟨decide_eq_false (by have := h.1; omega), decide_eq_false (by have := h.2; omega)⟩
     have f2 : StateOk M.states x.to → decide (x.to < 0) = false ∧ decide (M.states ≤ x.to) = false := fun h => ⟨decide_eq_false (by have := h.1; omega), decide_eq_false (by have := h.2; omega)⟩
     have F12 := Lib.hid (And.intro f1 f2)
     clear f1 f2
     by_cases p1 : StateOk M.states x.frm
     ·obtain ⟨e1, e2⟩ := F12.out.1 p1
      by_cases p2 : StateOk M.states x.to
      ·obtain ⟨e3, e4⟩ := F12.out.2 p2
       by_cases p3 : SymOk x.inp
       ·by_cases p4 : SymOk x.out
        ·have hok := Lib.hid (show StateOk M.states x.frm ∧ StateOk M.states x.to ∧ SymOk x.inp ∧ SymOk x.out from ⟨p1, p2, p3, p4⟩)
         rcases Nat.eq_zero_or_pos k with hk0 | hk0
         ·have d0 : decide (0 < k) = false := decide_eq_false (by omega)
          have Hk0 := Lib.hid hk0
          clear hk0
          go_quiet ((first | (go_at_call 48; exact Calls.quiet_of_same (sym12_yes _ _ (by assumption)))))
          go_wp2
          exact ⟨⟨k + 1, by go_num, by omega, HP.out.snoc Hxe.out hok.out (fun y h0 => absurd Hk0.out (by omega)), below_drewN hbw1 _⟩, by simp [intOf]; omega⟩
         ·obtain ⟨b', off', e', y0, y1, y2, y3⟩ := HA.out W1 hbw1 (k - 1) (by omega)
          cases e'
          obtain ⟨y, hye⟩ : ∃ y, y = M.arcs[k - 1] := ⟨_, rfl⟩
          rw [← hye] at y0 y1 y2 y3
          have Hye := Lib.hid (show M.arcs[k - 1]? = some y by rw [hye]; exact List.getElem?_eq_getElem (by omega))
          clear hye
          obtain ⟨p, rfl⟩ : ∃ p, k = p + 1 := ⟨k - 1, by omega⟩
          have d0 : decide ((0 : Int) < (p : Int) + 1) = true := decide_eq_true (by omega)
          have hwp : IntKind.i64.wrap (p : Int) = p := IntWalk.i64_in _ (by omega)
          have hps : p < M.arcs.length := by omega
          simp only [Nat.add_sub_cancel] at y0 y1 y2 y3
          refine wp_region_still_tail 45 (by kernel_rfl) (by kernel_rfl) ?_
          simp only [List.take_succ_cons, List.take_zero, List.drop_succ_cons, List.drop_zero]
          repeat (first | still_step | still_call (sym12_yes _ _ (by assumption)))
          refine wpStill_nil ?_
          change wpList _ _ _ _ _ W1.drew
          clear hwp y0 y1 y2 y3 a0 a1 a2 a3 m0 m1 m2 m3
          obtain ⟨wk, hwk⟩ : ∃ wk, W1.drew = wk := ⟨_, rfl⟩
          have hbk : Below W0.heap.size W0 wk := by rw [← hwk]; exact hbw1.drew
          rw [hwk]
          clear hwk hbw1 hbW1
          by_cases hyx : y.lt x
          ·have HQ := Lib.hid (before12_yes y x hyx wk)
           have Hyx := Lib.hid hyx
           clear hyx
           go_wp2_with (go_at_call 49; refine HQ.out.mono ?_; rintro e w1 ⟨rfl, hb1⟩)
           refine ⟨⟨p + 1 + 1, by go_num, by omega, HP.out.snoc Hxe.out hok.out (fun u h0 hu => ?_), hbk.trans (hb1.mono hbk.size)⟩, by simp [intOf]; omega⟩
           rw [Nat.add_sub_cancel, ← Nat.add_sub_cancel (n := p) (m := 1), Hye.out] at hu
           cases hu; exact Hyx.out
          ·have HQ := Lib.hid (before12_no y x hyx wk)
           have hno := Lib.hid (show ¬ ValidM M from fun h => hyx (pair_last h.arcsInc hk0 Hxe.out Hye.out))
           clear hyx
           go_wp2_with (go_at_call 49; refine HQ.out.mono ?_; rintro e w1 ⟨rfl, hb1⟩)
           have hbF := HW0.out.2.trans ((hbk.trans (hb1.mono hbk.size)).mono HW0.out.2.size)
           go_ret
           exact ⟨ret_no hno.out, hbF⟩
        ·have hno := Lib.hid (show ¬ ValidM M from fun h => p4 (h.arcs x Hin.out).2.2.2)
         go_quiet ((first | (go_at_call 48; exact Calls.quiet_of_same (sym12_yes _ _ (by assumption))) | (go_at_call 48; exact Calls.quiet_of_same (sym12_no _ _ (by assumption)))))
         go_wp2
         go_ret
         exact ⟨ret_no hno.out, below_drewN hbW1 _⟩
       ·have hno := Lib.hid (show ¬ ValidM M from fun h => p3 (h.arcs x Hin.out).2.2.1)
        go_quiet ((first | (go_at_call 48; exact Calls.quiet_of_same (sym12_no _ _ (by assumption)))))
        go_wp2
        go_ret
        exact ⟨ret_no hno.out, below_drewN hbW1 _⟩
      ·have hno := Lib.hid (show ¬ ValidM M from fun h => p2 (h.arcs x Hin.out).2.1)
       by_cases hx0 : x.to < 0
       ·have e3 : decide (x.to < 0) = true := decide_eq_true hx0
        clear p2
        go_quiet (fail)
        go_wp2
        go_ret
        exact ⟨ret_no hno.out, below_drewN hbW1 _⟩
       ·have e3 : decide (x.to < 0) = false := decide_eq_false hx0
        have e4 : decide (M.states ≤ x.to) = true := decide_eq_true (by unfold StateOk at p2; omega)
        clear p2
        go_quiet (fail)
        go_wp2
        go_ret
        exact ⟨ret_no hno.out, below_drewN hbW1 _⟩
     ·have hno := Lib.hid (show ¬ ValidM M from fun h => p1 (h.arcs x Hin.out).1)
      by_cases hx0 : x.frm < 0
      ·have e1 : decide (x.frm < 0) = true := decide_eq_true hx0
       clear p1
       go_quiet (fail)
       go_wp2
       go_ret
       exact ⟨ret_no hno.out, below_drewN hbW1 _⟩
      ·have e1 : decide (x.frm < 0) = false := decide_eq_false hx0
       have e2 : decide (M.states ≤ x.frm) = true := decide_eq_true (by unfold StateOk at p1; omega)
       clear p1
       go_quiet (fail)
       go_wp2
       go_ret
       exact ⟨ret_no hno.out, below_drewN hbW1 _⟩
    ·obtain rfl : k = M.arcs.length := by omega
     have hyes := Lib.hid (show ValidM M from ⟨by omega, h2, H3.out, by have := H4.out; omega, HFin.out.1, HFin.out.2, HP.out.all.1, HP.out.all.2⟩)
     go_wp2
     go_ret
     exact ⟨ret_yes hyes.out, hbW⟩
end Go.Proofs.YtfihjpffjdnahaaGreatDoor
