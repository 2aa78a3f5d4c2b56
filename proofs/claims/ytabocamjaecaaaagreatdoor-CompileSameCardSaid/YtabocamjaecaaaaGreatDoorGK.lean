/- K1 · K2 -/
import Derived.Test.YtabocamjaecaaaaGreatDoorGX
import Derived.Test.YtabocamjaecaaaaGreatDoorGA
import Derived.Test.YtabocamjaecaaaaGreatDoorGP
import Derived.Laws.IdiomStrings
import Derived.IntWalk
import Derived.StillTailTactics
/- Walks of machine's small functions: the text after a symbol. -/
namespace Go.Proofs.YtabocamjaecaaaaGreatDoor
open Go.RowKit Classical

set_option maxRecDepth 100000 in
set_option maxHeartbeats 1000000 in
theorem after_none (s : ByteArray) (w : World) :
  Calls Tryz.prog 31 #[.string s, .int .i64 0] w fun e w' => e = .returned (.string s) ∧ w' = w := by
 go_enter Tryz.func31, Tryz.ntmps31
 go_wp2
 go_ret
 exact ⟨rfl, rfl⟩

set_option maxRecDepth 100000 in
set_option maxHeartbeats 1000000 in
theorem after_some (s : ByteArray) (c : Nat) (h0 : 0 < c) (hc : c < 256) (hs : s.size ≤ 1000000) (w : World) :
  Calls Tryz.prog 31 #[.string s, .int .i64 c] w fun e w' => e = .returned (.string (s ++ ⟨#[c.toUInt8]⟩)) ∧ Below w.heap.size w w' := by
 have hw : IntKind.u8.wrap (c : Int) = (c : Int) := by simp [IntKind.wrap, IntKind.bits, IntKind.signed]; omega
 have d0 : ((c : Int) == 0) = false := by rw [beq_eq_false_iff_ne]; omega
 have hcv := run_convert_bytes_back (P := Tryz.prog) (w.alloc (.cells #[.int .u8 (c : Int)] 5)) 120 9 5 ⟨w.heap.size, 0, none⟩ 1 [c.toUInt8] Tryz.underlying120 Tryz.underlying5 Tryz.underlying9 (fun j hj => by
  obtain rfl : j = 0 := by simpa using hj
  have := (Blk.new w #[.int .u8 (c : Int)] 5).cell 0
  simp only [Addr.add]
  refine this.trans ?_
  simp [Nat.mod_eq_of_lt hc])
 rw [show ([c.toUInt8] : List UInt8).length = 1 from rfl] at hcv
 go_enter Tryz.func31, Tryz.ntmps31
 go_wp2
 go_ret
 exact ⟨rfl, (Below.refl _ _).alloc (Nat.le_refl _) _⟩

set_option maxRecDepth 100000 in
set_option maxHeartbeats 1000000 in
theorem state_any (z n : Int) (b : Nat) (w : World) (h : w.cell? ⟨b, 0, none⟩ = some (.int .i64 n)) :
  Calls Tryz.prog 33 #[.int .i64 z, .pointer (some ⟨b, 0, none⟩)] w fun e w' => e = .returned (.bool (decide (StateOk n z))) ∧ w' = w := by
 by_cases hz : 0 ≤ z
 ·go_enter Tryz.func33, Tryz.ntmps33
  go_wp2
  go_ret
  exact ⟨ret_dec (by unfold StateOk; simp; omega), rfl⟩
 ·go_enter Tryz.func33, Tryz.ntmps33
  go_wp2
  go_ret
  exact ⟨ret_no (by unfold StateOk; omega), rfl⟩

set_option maxRecDepth 100000 in
set_option maxHeartbeats 1000000 in
theorem symbol_any (z : Int) (w : World) :
  Calls Tryz.prog 34 #[.int .i64 z] w fun e w' => e = .returned (.bool (decide (SymOk z))) ∧ w' = w := by
 by_cases hz : z = 0
 ·subst hz
  go_enter Tryz.func34, Tryz.ntmps34
  go_wp2
  go_ret
  exact ⟨ret_yes (.inl rfl), rfl⟩
 ·have d0 : (z == 0) = false := by simpa using hz
  by_cases h3 : 33 ≤ z
  ·go_enter Tryz.func34, Tryz.ntmps34
   go_wp2
   go_ret
   exact ⟨ret_dec (by unfold SymOk; simp; omega), rfl⟩
  ·go_enter Tryz.func34, Tryz.ntmps34
   go_wp2
   go_ret
   exact ⟨ret_no (by unfold SymOk; omega), rfl⟩
end Go.Proofs.YtabocamjaecaaaaGreatDoor

/- Walks: the order of arcs that machine asks (machine.compare); the search by it (slices.BinarySearchFunc at arcs). -/
namespace Go.Proofs.YtabocamjaecaaaaGreatDoor
open Go.RowKit Classical

def Small (a : Arc) : Prop := -100000 ≤ a.frm ∧ a.frm ≤ 100000 ∧ -100000 ≤ a.inp ∧ a.inp ≤ 100000 ∧ -100000 ≤ a.out ∧ a.out ≤ 100000 ∧ -100000 ≤ a.to ∧ a.to ≤ 100000
def subA (a b : Arc) : Int := orI [a.frm - b.frm, a.inp - b.inp, a.out - b.out, a.to - b.to]
theorem subA_lt (a b : Arc) : subA a b < 0 ↔ a.lt b := by
 unfold subA Arc.lt
 simp only [orI]
 split <;> (try split) <;> (try split) <;> (try split) <;> omega

set_option maxRecDepth 100000 in
set_option maxHeartbeats 1000000 in
theorem compare_any (a b : Arc) (ha : Small a) (hb : Small b) (w : World) :
  Calls Tryz.prog 35 #[.agg #[.int .i64 a.frm, .int .i64 a.inp, .int .i64 a.out, .int .i64 a.to], .agg #[.int .i64 b.frm, .int .i64 b.inp, .int .i64 b.out, .int .i64 b.to]] w
   fun e w' => e = .returned (.int .i64 (subA a b)) ∧ ∃ o1 o2 o3, w' = ((w.alloc o1).alloc o2).alloc o3 := by
 obtain ⟨x1, x2, x3, x4, x5, x6, x7, x8⟩ := ha
 obtain ⟨y1, y2, y3, y4, y5, y6, y7, y8⟩ := hb
 have e1 : IntKind.i64.wrap (a.frm - b.frm) = a.frm - b.frm := IntWalk.i64_in _ (by omega)
 have e2 : IntKind.i64.wrap (a.inp - b.inp) = a.inp - b.inp := IntWalk.i64_in _ (by omega)
 have e3 : IntKind.i64.wrap (a.out - b.out) = a.out - b.out := IntWalk.i64_in _ (by omega)
 have e4 : IntKind.i64.wrap (a.to - b.to) = a.to - b.to := IntWalk.i64_in _ (by omega)
 clear x1 x2 x3 x4 x5 x6 x7 x8 y1 y2 y3 y4 y5 y6 y7 y8
 obtain ⟨W1, hW1⟩ : ∃ W1 : World, W1 = (w.alloc (.cells #[.int .i64 a.frm, .int .i64 a.inp, .int .i64 a.out, .int .i64 a.to] 49)).alloc (.cells #[.int .i64 b.frm, .int .i64 b.inp, .int .i64 b.out, .int .i64 b.to] 49) := ⟨_, rfl⟩
 have ha : Blk W1 w.heap.size #[.int .i64 a.frm, .int .i64 a.inp, .int .i64 a.out, .int .i64 a.to] 49 := by rw [hW1]; exact (Blk.new _ _ _).alloc _
 have hb : Blk W1 (w.heap.size + 1) #[.int .i64 b.frm, .int .i64 b.inp, .int .i64 b.out, .int .i64 b.to] 49 := by
  rw [hW1]; have := Blk.new (w.alloc (.cells #[.int .i64 a.frm, .int .i64 a.inp, .int .i64 a.out, .int .i64 a.to] 49)) #[.int .i64 b.frm, .int .i64 b.inp, .int .i64 b.out, .int .i64 b.to] 49; simpa using this
 have a0 := ha.cell 0
 have a1 := ha.cell 1
 have a2 := ha.cell 2
 have a3 := ha.cell 3
 have b0 := hb.cell 0
 have b1 := hb.cell 1
 have b2 := hb.cell 2
 have b3 := hb.cell 3
 simp only [List.getElem?_toArray, List.getElem?_cons_zero, List.getElem?_cons_succ] at a0 a1 a2 a3 b0 b1 b2 b3
 have HW1 := Lib.hid hW1
 clear hW1 ha hb
 go_enter Tryz.func35, Tryz.ntmps35
 go_upto_region 1 with (fail)
 rw [← HW1.out]
 obtain ⟨c1, h1⟩ : ∃ z, a.frm - b.frm = z := ⟨_, rfl⟩
 obtain ⟨c2, h2⟩ : ∃ z, a.inp - b.inp = z := ⟨_, rfl⟩
 obtain ⟨c3, h3⟩ : ∃ z, a.out - b.out = z := ⟨_, rfl⟩
 obtain ⟨c4, h4⟩ : ∃ z, a.to - b.to = z := ⟨_, rfl⟩
 rw [h1] at e1
 rw [h2] at e2
 rw [h3] at e3
 rw [h4] at e4
 have Hc := Lib.hid (show subA a b = orI [c1, c2, c3, c4] from by rw [subA, h1, h2, h3, h4])
 have hrow : RowAt (W1.alloc (.cells (nums [c1, c2, c3, c4]).toArray 3)) (W1.heap.size + 1) (some ⟨W1.heap.size, 0, none⟩) (nums [c1, c2, c3, c4]) := fun _ =>
  ⟨_, 0, rfl, by omega, fun i x hx => by rw [Nat.zero_add]; exact Box.new W1 (nums [c1, c2, c3, c4]) 3 i x hx⟩
 have qo := Or_any [c1, c2, c3, c4] _ 4 _ (by simp [maxLen]) _ hrow
 have HQ := Lib.hid qo
 clear qo hrow
 go_wp2_with fail
 clear a0 a1 a2 a3 b0 b1 b2 b3
 refine HQ.out.mono ?_
 rintro e w2 ⟨rfl, hw2⟩
 have Hw2 := Lib.hid hw2
 clear hw2 h1 h2 h3 h4 e1 e2 e3 e4
 go_wp2_with fail
 go_ret
 exact ⟨ret_int Hc.out.symm, _, _, _, by rw [Hw2.out, HW1.out]⟩

theorem compare_below (a b : Arc) (ha : Small a) (hb : Small b) (w : World) :
  Calls Tryz.prog 35 #[.agg #[.int .i64 a.frm, .int .i64 a.inp, .int .i64 a.out, .int .i64 a.to], .agg #[.int .i64 b.frm, .int .i64 b.inp, .int .i64 b.out, .int .i64 b.to]] w
   fun e w' => e = .returned (.int .i64 (subA a b)) ∧ Below w.heap.size w w' := by
 refine (compare_any a b ha hb w).mono ?_
 rintro e w' ⟨rfl, o1, o2, o3, rfl⟩
 exact ⟨rfl, (((Below.refl _ _).alloc (Nat.le_refl _) _).alloc (by simp) _).alloc (by simp; omega) _⟩

theorem small_of {n : Int} {a : Arc} (hn : n ≤ 4000) (h : StateOk n a.frm ∧ StateOk n a.to ∧ SymOk a.inp ∧ SymOk a.out) : Small a := by
 obtain ⟨⟨h1, h2⟩, ⟨h3, h4⟩, h5, h6⟩ := h
 unfold SymOk at h5 h6
 unfold Small
 omega

theorem inc_lt {l : List Arc} (hinc : Increasing l) {t : Arc} {i j : Nat} {a b : Arc} (hij : i ≤ j) (hi : l[i]? = some a) (hj : l[j]? = some b) (h : b.lt t) : a.lt t := by
 rcases Nat.eq_or_lt_of_le hij with rfl | h'
 ·rw [hi] at hj; cases hj; exact h
 ·obtain ⟨h1, e1⟩ := List.getElem?_eq_some_iff.1 hi
  obtain ⟨h2, e2⟩ := List.getElem?_eq_some_iff.1 hj
  have := List.pairwise_iff_getElem.1 hinc i j h1 h2 h'
  rw [e1, e2] at this
  exact Arc.lt_trans this h

set_option maxRecDepth 100000 in
set_option maxHeartbeats 4000000 in
theorem bsf_any (l : List Arc) (T : Arc) (aa : Option Addr) (ac : Nat) (hl : l.length ≤ 20000) (hsm : ∀ a ∈ l, Small a) (hT : Small T) (hinc : Increasing l) (w : World) (h : RowAt w w.heap.size aa (flat l)) :
  Calls Tryz.prog 78 #[.slice aa l.length ac, .agg #[.int .i64 T.frm, .int .i64 T.inp, .int .i64 T.out, .int .i64 T.to], .func (.func 35) #[] #[]] w
   fun e w' => ∃ (lo : Nat) (f : Bool), e = .returned (.tuple #[.int .i64 lo, .bool f]) ∧ lo ≤ l.length ∧ (∀ t a, t < lo → l[t]? = some a → a.lt T) ∧ (∀ t a, lo ≤ t → l[t]? = some a → ¬ a.lt T) ∧ Below w.heap.size w w' := by
 obtain ⟨W0, hW0⟩ : ∃ W0 : World, W0 = w.alloc (.cells #[.int .i64 T.frm, .int .i64 T.inp, .int .i64 T.out, .int .i64 T.to] 49) := ⟨_, rfl⟩
 have hw0 : Below w.heap.size w W0 := by rw [hW0]; exact (Below.refl _ _).alloc (Nat.le_refl _) _
 have hB0 : Blk W0 w.heap.size #[.int .i64 T.frm, .int .i64 T.inp, .int .i64 T.out, .int .i64 T.to] 49 := by rw [hW0]; exact Blk.new _ _ _
 have hlt0 := hB0.lt
 have HB0 := Lib.hid (fun (wr : World) (hbw : Below W0.heap.size W0 wr) => hB0.below hbw hlt0)
 have HC := Lib.hid (fun (wr : World) (hbw : Below W0.heap.size W0 wr) (k : Nat) (hk : k < l.length) => by
  obtain ⟨b, off, e, hb, hc⟩ := h.arcs (by omega)
  have hx := hw0.trans (hbw.mono hw0.size)
  exact (⟨b, off, e, (hx.cell (p := ⟨b, off + k * 4, none⟩) hb).trans (hc k hk).1, (hx.cell (p := ⟨b, off + k * 4 + 1, none⟩) hb).trans (hc k hk).2.1,
   (hx.cell (p := ⟨b, off + k * 4 + 2, none⟩) hb).trans (hc k hk).2.2.1, (hx.cell (p := ⟨b, off + k * 4 + 3, none⟩) hb).trans (hc k hk).2.2.2⟩ :
   ∃ b off, aa = some ⟨b, off, none⟩ ∧ wr.cell? ⟨b, off + k * 4, none⟩ = some (.int .i64 l[k].frm) ∧ wr.cell? ⟨b, off + k * 4 + 1, none⟩ = some (.int .i64 l[k].inp) ∧ wr.cell? ⟨b, off + k * 4 + 2, none⟩ = some (.int .i64 l[k].out) ∧ wr.cell? ⟨b, off + k * 4 + 3, none⟩ = some (.int .i64 l[k].to)))
 have HW0 := Lib.hid (And.intro hW0 hw0)
 have HI := Lib.hid (And.intro hinc hsm)
 clear hW0 hw0 hB0 hinc hsm h
 go_enter Tryz.func78, Tryz.ntmps78
 go_wp2_with fail
 rw [← HW0.out.1]
 go_loopw [9, 10] (fun i j wr => ∃ lo hi : Nat, i = .int .i64 lo ∧ j = .int .i64 hi ∧ lo ≤ hi ∧ hi ≤ l.length ∧ (∀ t a, t < lo → l[t]? = some a → a.lt T) ∧ (∀ t a, hi ≤ t → l[t]? = some a → ¬ a.lt T) ∧ Below W0.heap.size W0 wr) (fun i j _ => (intOf j).toNat - (intOf i).toNat)
 case atStart => exact ⟨0, l.length, rfl, rfl, Nat.zero_le _, Nat.le_refl _, fun t a ht => absurd ht (Nat.not_lt_zero _), fun t a ht hta => by have := (List.getElem?_eq_some_iff.1 hta).1; omega, Below.refl _ _⟩
 case round =>
  obtain ⟨lo, hi, rfl, rfl, hlh, hhl, hlo, hhi, hbw⟩ := hrel
  have HL := Lib.hid (And.intro hlo hhi)
  clear hlo hhi
  have hb0 := HB0.out wr hbw
  have t0 := hb0.cell 0
  have t1 := hb0.cell 1
  have t2 := hb0.cell 2
  have t3 := hb0.cell 3
  simp only [List.getElem?_toArray, List.getElem?_cons_zero, List.getElem?_cons_succ] at t0 t1 t2 t3
  clear hb0
  by_cases hlt : lo < hi
  ·obtain ⟨h, hh⟩ : ∃ h, (lo + hi) / 2 = h := ⟨_, rfl⟩
   have hm1 : h < l.length := by omega
   have hhi : ((lo : Int) + (hi : Int)) / 2 = (h : Int) := by omega
   have hlh' : lo ≤ h ∧ h < hi := by omega
   obtain ⟨b, off, rfl, x0, x1, x2, x3⟩ := HC.out wr hbw h hm1
   obtain ⟨x, hxe⟩ : ∃ x, x = l[h] := ⟨_, rfl⟩
   rw [← hxe] at x0 x1 x2 x3
   have Hxe := Lib.hid (show l[h]? = some x by rw [hxe]; exact List.getElem?_eq_getElem hm1)
   have hsx : Small x := HI.out.2 x (List.mem_of_getElem? Hxe.out)
   have Hhi := Lib.hid hhi
   clear hxe hhi hh
   go_upto_region 5 with (fail)
   rw [Hhi.out]
   refine wp_region_still_tail 6 (by kernel_rfl) (by kernel_rfl) ?_
   simp only [List.take_succ_cons, List.take_zero, List.drop_succ_cons, List.drop_zero]
   repeat still_step
   refine wpStill_nil ?_
   change wpList _ _ _ _ _ wr.drew
   clear x0 x1 x2 x3 t0 t1 t2 t3 hlh
   obtain ⟨wk, hwk⟩ : ∃ wk, wr.drew = wk := ⟨_, rfl⟩
   have hbk : Below W0.heap.size W0 wk := by rw [← hwk]; exact hbw.drew
   rw [hwk]
   clear hwk hbw
   by_cases hx : x.lt T
   ·have hd : decide (subA x T < 0) = true := decide_eq_true ((subA_lt x T).2 hx)
    obtain ⟨z, hz⟩ : ∃ z, subA x T = z := ⟨_, rfl⟩
    have HQ := compare_below x T hsx hT wk
    rw [hz] at HQ hd
    have HQ := Lib.hid HQ
    have Hx := Lib.hid hx
    clear hz hx
    go_wp2_with (go_at_call 35; refine HQ.out.mono ?_; rintro e w1 ⟨rfl, hb1⟩)
    have hb1' := hbk.trans (hb1.mono hbk.size)
    refine ⟨⟨h + 1, hi, by go_num, rfl, by omega, hhl, fun t a ht hta => ?_, HL.out.2, hb1'⟩, by simp [intOf]; omega⟩
    exact inc_lt HI.out.1 (by omega : t ≤ h) hta Hxe.out Hx.out
   ·have hd : decide (subA x T < 0) = false := decide_eq_false (fun h => hx ((subA_lt x T).1 h))
    obtain ⟨z, hz⟩ : ∃ z, subA x T = z := ⟨_, rfl⟩
    have HQ := compare_below x T hsx hT wk
    rw [hz] at HQ hd
    have HQ := Lib.hid HQ
    have Hx := Lib.hid hx
    clear hz hx
    go_wp2_with (go_at_call 35; refine HQ.out.mono ?_; rintro e w1 ⟨rfl, hb1⟩)
    have hb1' := hbk.trans (hb1.mono hbk.size)
    refine ⟨⟨lo, h, rfl, rfl, by omega, by omega, HL.out.1, fun t a ht hta hat => Hx.out (inc_lt HI.out.1 ht Hxe.out hta hat), hb1'⟩, by simp [intOf]; omega⟩
  ·obtain rfl : lo = hi := by omega
   have hbW := HW0.out.2.trans (hbw.mono HW0.out.2.size)
   by_cases hn : lo < l.length
   ·obtain ⟨b, off, rfl, x0, x1, x2, x3⟩ := HC.out wr hbw lo hn
    obtain ⟨x, hxe⟩ : ∃ x, x = l[lo] := ⟨_, rfl⟩
    rw [← hxe] at x0 x1 x2 x3
    have hsx : Small x := HI.out.2 x (by rw [hxe]; exact List.getElem_mem hn)
    have HY := Lib.hid (fun (w1 : World) (hb : Below W0.heap.size W0 w1) => by
     obtain ⟨b', off', e', y0, y1, y2, y3⟩ := HC.out w1 hb lo hn
     cases e'
     rw [← hxe] at y0 y1 y2 y3
     exact (⟨y0, y1, y2, y3, (HB0.out w1 hb).cell 0, (HB0.out w1 hb).cell 1, (HB0.out w1 hb).cell 2, (HB0.out w1 hb).cell 3⟩ :
      w1.cell? ⟨b, off + lo * 4, none⟩ = some (.int .i64 x.frm) ∧ w1.cell? ⟨b, off + lo * 4 + 1, none⟩ = some (.int .i64 x.inp) ∧ w1.cell? ⟨b, off + lo * 4 + 2, none⟩ = some (.int .i64 x.out) ∧ w1.cell? ⟨b, off + lo * 4 + 3, none⟩ = some (.int .i64 x.to) ∧
       w1.cell? ⟨w.heap.size, 0, none⟩ = some (.int .i64 T.frm) ∧ w1.cell? ⟨w.heap.size, 1, none⟩ = some (.int .i64 T.inp) ∧ w1.cell? ⟨w.heap.size, 2, none⟩ = some (.int .i64 T.out) ∧ w1.cell? ⟨w.heap.size, 3, none⟩ = some (.int .i64 T.to)))
    clear hxe
    obtain ⟨wk, rfl⟩ : ∃ wk : World, wk = wr := ⟨_, rfl⟩
    go_upto_region 8 with (fail)
    go_cut [6, 7] (fun p q wx => p = .int .i64 lo ∧ (∃ f : Bool, q = .bool f) ∧ Below wk.heap.size wk wx)
    case first =>
     go_region_held3 (fun w' => w'.cell? ⟨b, off + lo * 4, none⟩ = some (.int .i64 x.frm) ∧ w'.cell? ⟨b, off + lo * 4 + 1, none⟩ = some (.int .i64 x.inp) ∧ w'.cell? ⟨b, off + lo * 4 + 2, none⟩ = some (.int .i64 x.out) ∧ w'.cell? ⟨b, off + lo * 4 + 3, none⟩ = some (.int .i64 x.to) ∧
       w'.cell? ⟨w.heap.size, 0, none⟩ = some (.int .i64 T.frm) ∧ w'.cell? ⟨w.heap.size, 1, none⟩ = some (.int .i64 T.inp) ∧ w'.cell? ⟨w.heap.size, 2, none⟩ = some (.int .i64 T.out) ∧ w'.cell? ⟨w.heap.size, 3, none⟩ = some (.int .i64 T.to))
      (first | exact ⟨x0, x1, x2, x3, t0, t1, t2, t3⟩ | exact ⟨y0, y1, y2, y3, z0, z1, z2, z3⟩ | go_keep)
      (first | (go_at_call 35; refine (compare_below x T hsx hT _).mono ?_; rintro e w1 ⟨rfl, hb1⟩; have hb1' := hbw.drew.trans (hb1.mono hbw.size); obtain ⟨y0, y1, y2, y3, z0, z1, z2, z3⟩ := HY.out w1 hb1'))
     all_goals go_wp2_with fail
     all_goals go_meet
     all_goals exact ⟨rfl, ⟨_, rfl⟩, (Below.refl _ wk).drew.trans hb1⟩
    case rest =>
     obtain ⟨rfl, ⟨f, rfl⟩, hbc⟩ := hcut
     go_wp2_with fail
     go_ret2
     exact ⟨lo, f, rfl, hhl, HL.out.1, HL.out.2, hbW.trans (hbc.mono hbW.size)⟩
   ·obtain rfl : lo = l.length := by omega
    have hd : decide ((l.length : Int) < (l.length : Int)) = false := decide_eq_false (by omega)
    go_upto_region 8 with (fail)
    go_quiet (fail)
    go_wp2_with fail
    go_ret2
    exact ⟨l.length, false, rfl, Nat.le_refl _, HL.out.1, HL.out.2, below_drewN hbW _⟩
end Go.Proofs.YtabocamjaecaaaaGreatDoor
