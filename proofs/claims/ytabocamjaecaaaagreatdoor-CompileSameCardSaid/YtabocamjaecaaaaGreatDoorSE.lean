/- SD · SE · SF -/
import Derived.Test.YtabocamjaecaaaaGreatDoorGR
import Derived.Test.YtabocamjaecaaaaGreatDoorS3
import Derived.Test.YtabocamjaecaaaaGreatDoorK9
import Derived.Laws.IdiomRangeMap
/- Walk: whether a rule may stand (rules.rule.stands). -/
namespace Go.Proofs.YtabocamjaecaaaaGreatDoor
open Go.RowKit Classical

set_option maxRecDepth 100000 in
set_option maxHeartbeats 2000000 in
/-- slices.Index at ints, in a row that is there. -/
theorem indexI_any (b o n c : Nat) (zs : List Int) (x : Int) (hn : zs.length = n) (hl : n ≤ 1000000) (w : World) (hc : ∀ j (h : j < zs.length), w.cell? ⟨b, o + j, none⟩ = some (.int .i64 zs[j])) :
  Calls Tryz.prog 87 #[.slice (some ⟨b, o, none⟩) n c, .int .i64 x] w fun e w' => ∃ j : Int, e = .returned (.int .i64 j) ∧ (0 ≤ j ↔ x ∈ zs) ∧ w' = w := by
 subst hn
 have HC := Lib.hid hc
 clear hc
 go_enter Tryz.func87, Tryz.ntmps87
 go_wp2_with fail
 go_loopw [8] (fun s wr => ∃ k : Nat, k ≤ zs.length ∧ s = .int .i64 k ∧ (∀ j (h : j < zs.length), j < k → zs[j] ≠ x) ∧ wr = w) (fun s _ => zs.length - (intOf s).toNat)
 case atStart => exact ⟨0, Nat.zero_le _, rfl, fun j _ h => by omega, rfl⟩
 case round =>
  obtain ⟨k, hk, rfl, hno, rfl⟩ := hrel
  by_cases hkl : k < zs.length
  ·have hcell := HC.out k hkl
   have Hno := Lib.hid hno
   obtain ⟨z, hz⟩ : ∃ z, zs[k] = z := ⟨_, rfl⟩
   rw [hz] at hcell
   have Hz := Lib.hid hz
   clear hno hz
   by_cases hx : x = z
   ·have d1 : (x == z) = true := by simp [hx]
    have hin := Lib.hid (show x ∈ zs by rw [hx, ← Hz.out]; exact List.getElem_mem hkl)
    clear hx
    go_wp2_with fail
    go_ret
    exact ⟨_, rfl, ⟨fun _ => hin.out, fun _ => by omega⟩, rfl⟩
   ·have d1 : (x == z) = false := by simp [hx]
    have hne := Lib.hid hx
    clear hx
    go_wp2_with fail
    refine ⟨⟨k + 1, by omega, by go_num, fun j hj hjk => ?_, trivial⟩, by simp [intOf]; omega⟩
    by_cases e : j = k
    ·subst e; rw [Hz.out]; exact fun h => hne.out h.symm
    ·exact Hno.out j hj (by omega)
  ·obtain rfl : k = zs.length := by omega
   have hin := Lib.hid (show x ∉ zs from fun h => by
    obtain ⟨j, hj, e⟩ := List.getElem_of_mem h
    exact hno j hj hj e)
   clear hno
   go_wp2_with fail
   go_ret
   exact ⟨_, rfl, ⟨fun h => by omega, fun h => absurd h hin.out⟩, rfl⟩
set_option maxRecDepth 100000 in
set_option maxHeartbeats 2000000 in
theorem containsI_any (b o n c : Nat) (zs : List Int) (x : Int) (hn : zs.length = n) (hl : n ≤ 1000000) (w : World) (hc : ∀ j (h : j < zs.length), w.cell? ⟨b, o + j, none⟩ = some (.int .i64 zs[j])) :
  Calls Tryz.prog 66 #[.slice (some ⟨b, o, none⟩) n c, .int .i64 x] w fun e w' => e = .returned (.bool (decide (x ∈ zs))) ∧ w' = w := by
 have HQ := Lib.hid (indexI_any b o n c zs x hn hl w hc)
 go_enter Tryz.func66, Tryz.ntmps66
 go_wp2_with (go_at_call 87; refine HQ.out.mono ?_; rintro e w' ⟨j, rfl, hj, hw⟩)
 subst hw
 have Hj := Lib.hid hj
 clear hj
 go_wp2_with fail
 go_ret
 refine ⟨?_, rfl⟩
 have h1 : decide (j ≥ 0) = decide (x ∈ zs) := decide_eq_decide.2 Hj.out
 first | rw [h1] | (rw [← h1]; rfl)
set_option maxRecDepth 100000 in
set_option maxHeartbeats 2000000 in
/-- slices.Equal at ints, two rows of one length. -/
theorem equalI_any (b1 o1 c1 b2 o2 c2 : Nat) (n : Nat) (xs ys : List Int) (hx : xs.length = n) (hy : ys.length = n) (hl : n ≤ 1000000) (w : World) (h1 : ∀ j (h : j < xs.length), w.cell? ⟨b1, o1 + j, none⟩ = some (.int .i64 xs[j])) (h2 : ∀ j (h : j < ys.length), w.cell? ⟨b2, o2 + j, none⟩ = some (.int .i64 ys[j])) :
  Calls Tryz.prog 65 #[.slice (some ⟨b1, o1, none⟩) n c1, .slice (some ⟨b2, o2, none⟩) n c2] w fun e w' => e = .returned (.bool (decide (xs = ys))) ∧ ∃ q, w' = w.drewN q := by
 have HC := Lib.hid (And.intro h1 h2)
 have HL := Lib.hid (And.intro hx hy)
 clear h1 h2 hx hy
 go_enter Tryz.func65, Tryz.ntmps65
 go_wp2_with fail
 go_loopw [13] (fun s wr => ∃ k : Nat, k ≤ n ∧ s = .int .i64 k ∧ (∀ j (h : j < xs.length) (h' : j < ys.length), j < k → xs[j] = ys[j]) ∧ ∃ q, wr = w.drewN q) (fun s _ => n - (intOf s).toNat)
 case atStart => exact ⟨0, Nat.zero_le _, rfl, fun j _ _ h => by omega, 0, rfl⟩
 case round =>
  obtain ⟨k, hk, rfl, hno, q, hq⟩ := hrel
  by_cases hkl : k < n
  ·have hk1 : k < xs.length := by have := HL.out.1; omega
   have hk2 : k < ys.length := by have := HL.out.2; omega
   have e1 : wr.cell? ⟨b1, o1 + k, none⟩ = some (.int .i64 xs[k]) := by rw [hq]; exact HC.out.1 k hk1
   have e2 : wr.cell? ⟨b2, o2 + k, none⟩ = some (.int .i64 ys[k]) := by rw [hq]; exact HC.out.2 k hk2
   have Hno := Lib.hid hno
   have Hq := Lib.hid hq
   obtain ⟨x, hx⟩ : ∃ z, xs[k] = z := ⟨_, rfl⟩
   obtain ⟨y, hy⟩ : ∃ z, ys[k] = z := ⟨_, rfl⟩
   rw [hx] at e1
   rw [hy] at e2
   have Hxy := Lib.hid (And.intro hx hy)
   clear hno hq hx hy
   by_cases hxy : x = y
   ·have d1 : (x != y) = false := by simp [hxy]
    have hee := Lib.hid hxy
    clear hxy
    go_wp2_with fail
    go_quiet (fail)
    go_wp2_with fail
    refine ⟨⟨k + 1, by omega, by go_num, fun j hj hj' hjk => ?_, q + nq, by rw [Hq.out, World.drewN_drewN]⟩, by simp [intOf]; omega⟩
    by_cases e : j = k
    ·subst e; rw [Hxy.out.1, Hxy.out.2]; exact hee.out
    ·exact Hno.out j hj hj' (by omega)
   ·have d1 : (x != y) = true := by simp [hxy]
    have hne := Lib.hid (show ¬ xs = ys from fun e => hxy (by rw [← Hxy.out.1, ← Hxy.out.2]; simp only [e]))
    clear hxy
    go_wp2_with fail
    go_quiet (fail)
    go_wp2_with fail
    go_ret
    exact ⟨by rw [decide_eq_false hne.out]; rfl, q + nq, by rw [Hq.out, World.drewN_drewN]⟩
  ·obtain rfl : k = n := by omega
   have hee := Lib.hid (show xs = ys from List.ext_getElem (by rw [HL.out.1, HL.out.2]) (fun j hj hj' => hno j hj hj' (by have := HL.out.1; omega)))
   have Hq := Lib.hid hq
   clear hno hq
   go_wp2_with fail
   go_ret
   exact ⟨by rw [decide_eq_true hee.out]; rfl, q, Hq.out⟩

/-- A rule may stand, by its letters. -/
def StandsI (F N : List Int) (fin : Bool) (rest : List Int) : Prop :=
 F.length ≤ rest.length ∧ F = rest.take F.length ∧ (if fin = true then F.length = rest.length else if 0 < N.length then F.length < rest.length ∧ rest[F.length]?.getD (-1) ∈ N else True)
set_option maxRecDepth 100000 in
set_option maxHeartbeats 2000000 in
theorem stands_any (r : Rul) (F N rest : List Int) (fa na ra : Option Addr) (fc nc rc : Nat) (hF1 : 1 ≤ F.length) (hFl : F.length ≤ 24) (hNl : N.length ≤ 24) (hrl : rest.length ≤ 24) (hrc : rest.length ≤ rc) (w : World) (hF : RowAt w w.heap.size fa (nums F)) (hN : RowAt w w.heap.size na (nums N)) (hr : RowAt w w.heap.size ra (nums rest)) :
  Calls Tryz.prog 40 #[.agg #[.string r.src, .string r.dst, .string r.nxt, .bool r.fin, .slice fa F.length fc, .slice na N.length nc], .slice ra rest.length rc] w
   fun e w' => e = .returned (.bool (decide (StandsI F N r.fin rest))) ∧ Below w.heap.size w w' := by
 obtain ⟨W0, hW0⟩ : ∃ W0 : World, W0 = w.alloc (.cells #[.string r.src, .string r.dst, .string r.nxt, .bool r.fin, .slice fa F.length fc, .slice na N.length nc] 103) := ⟨_, rfl⟩
 have hb0 : Below w.heap.size w W0 := by rw [hW0]; exact (Below.refl _ _).alloc (Nat.le_refl _) _
 have k0 : Blk W0 w.heap.size #[.string r.src, .string r.dst, .string r.nxt, .bool r.fin, .slice fa F.length fc, .slice na N.length nc] 103 := by rw [hW0]; exact Blk.new _ _ _
 have m3 : W0.cell? ⟨w.heap.size, 3, none⟩ = some (.bool r.fin) := k0.cell 3
 have m4 : W0.cell? ⟨w.heap.size, 4, none⟩ = some (.slice fa F.length fc) := k0.cell 4
 have m5 : W0.cell? ⟨w.heap.size, 5, none⟩ = some (.slice na N.length nc) := k0.cell 5
 obtain ⟨fb, fo, rfl, hfb, hfc⟩ := (hF.below hb0 (Nat.le_refl _)).nums (by omega)
 have HF := Lib.hid hfc
 have HB := Lib.hid hb0
 have HW0 := Lib.hid hW0
 clear hW0 hb0 k0 hF hfc
 go_enter Tryz.func40, Tryz.ntmps40
 go_upto_region 1 with (fail)
 rw [← HW0.out]
 by_cases h1 : rest.length < F.length
 ·have d1 : decide ((F.length : Int) > (rest.length : Int)) = true := by simp; omega
  have d1' : decide ((rest.length : Int) < (F.length : Int)) = true := by simp; omega
  have hno := Lib.hid (show ¬ StandsI F N r.fin rest from fun h => by have := h.1; omega)
  go_wp2_with fail
  go_quiet (fail)
  go_wp2
  go_ret
  refine ⟨?_, below_drewN' HB.out _⟩
  rw [decide_eq_false hno.out]
  rfl
 have h1' : F.length ≤ rest.length := by omega
 have d1 : decide ((F.length : Int) > (rest.length : Int)) = false := by simp; omega
 have d1' : decide ((rest.length : Int) < (F.length : Int)) = false := by simp; omega
 obtain ⟨rb, ro, rfl, hrb, hrcell⟩ := (hr.below HB.out (Nat.le_refl _)).nums (by omega)
 have HR := Lib.hid hrcell
 clear hr hrcell
 have hFc := fun j (hj : j < F.length) => (HF.out j hj)
 have HE := Lib.hid (fun q => equalI_any fb fo fc rb ro rc F.length F (rest.take F.length) rfl (by rw [List.length_take]; omega) (by omega) (W0.drewN q) (fun j hj => HF.out j hj) (fun j hj => by rw [List.getElem_take]; exact HR.out j (by rw [List.length_take] at hj; omega)))
 clear hFc
 obtain ⟨eb, heb⟩ : ∃ eb : Bool, eb = decide (F = rest.take F.length) := ⟨_, rfl⟩
 rw [← heb] at HE
 have Heb := Lib.hid heb
 have hnc : F.length ≤ rc := by omega
 clear heb
 cases eb with
 | false =>
  have hno := Lib.hid (show ¬ StandsI F N r.fin rest from fun h => by
   have h2 := Heb.out
   rw [decide_eq_true h.2.1] at h2
   cases h2)
  go_wp2_with fail
  go_quiet ((go_at_call 65; exact Calls.quiet_of (HE.out _)))
  go_wp2
  go_ret
  refine ⟨?_, below_drewN' HB.out _⟩
  rw [decide_eq_false hno.out]
  rfl
 | true =>
  have hsame := Lib.hid (show F = rest.take F.length from of_decide_eq_true Heb.out.symm)
  go_wp2_with fail
  go_quiet ((go_at_call 65; exact Calls.quiet_of (HE.out _)))
  obtain ⟨WQ, hWQ⟩ : ∃ WQ : World, WQ = W0.drewN nq := ⟨_, rfl⟩
  have q3 : WQ.cell? ⟨w.heap.size, 3, none⟩ = some (.bool r.fin) := by rw [hWQ]; exact m3
  have q5 : WQ.cell? ⟨w.heap.size, 5, none⟩ = some (.slice na N.length nc) := by rw [hWQ]; exact m5
  have hbQ : Below w.heap.size w WQ := by rw [hWQ]; exact below_drewN' HB.out _
  have HBQ := Lib.hid hbQ
  have HcR : ∀ j (h : j < rest.length), WQ.cell? ⟨rb, ro + j, none⟩ = some (.int .i64 rest[j]) := fun j h => by rw [hWQ]; exact HR.out j h
  have HRQ := Lib.hid HcR
  have HNQ := Lib.hid (hN.below hbQ (Nat.le_refl _))
  rw [← hWQ]
  clear hWQ hbQ HcR HE HF HR HW0 m3 m4 m5 hN Heb
  by_cases hfin : r.fin = true
  ·rw [hfin] at q3
   by_cases hln : F.length = rest.length
   ·have d2 : ((F.length : Int) == (rest.length : Int)) = true := by simp [hln]
    have hyes := Lib.hid (show StandsI F N r.fin rest from ⟨h1', hsame.out, by rw [if_pos hfin]; exact hln⟩)
    clear hln hfin
    go_wp2_with fail
    go_ret
    refine ⟨?_, HBQ.out⟩
    rw [decide_eq_true hyes.out]
    rfl
   ·have d2 : ((F.length : Int) == (rest.length : Int)) = false := by simp; omega
    have hno := Lib.hid (show ¬ StandsI F N r.fin rest from fun h => by have := h.2.2; rw [if_pos hfin] at this; exact hln this)
    clear hln hfin
    go_wp2_with fail
    go_ret
    refine ⟨?_, HBQ.out⟩
    rw [decide_eq_false hno.out]
    rfl
  have hff : r.fin = false := by simpa using hfin
  rw [hff] at q3
  by_cases hN0 : 0 < N.length
  ·have d2 : decide ((N.length : Int) > 0) = true := by simp; omega
   have d2' : decide (0 < (N.length : Int)) = true := by simp; omega
   obtain ⟨nb, no, rfl, hnb, hncell⟩ := HNQ.out.nums (by omega)
   have HNC := Lib.hid hncell
   clear hncell
   by_cases hln : F.length < rest.length
   ·have d3 : decide ((F.length : Int) < (rest.length : Int)) = true := by simp; omega
    obtain ⟨z, hz⟩ : ∃ z, rest[F.length] = z := ⟨_, rfl⟩
    have ez := HRQ.out F.length hln
    rw [hz] at ez
    have Hz := Lib.hid hz
    have HQ := Lib.hid (fun q => containsI_any nb no N.length nc N z rfl (by omega) (WQ.drewN q) (fun j h => HNC.out j h))
    obtain ⟨cb, hcb⟩ : ∃ cb : Bool, cb = decide (z ∈ N) := ⟨_, rfl⟩
    rw [← hcb] at HQ
    have hst := Lib.hid (show decide (StandsI F N r.fin rest) = cb from by
     rw [hcb, decide_eq_decide]
     have e : rest[F.length]?.getD (-1) = z := by rw [List.getElem?_eq_getElem hln, hz]; rfl
     constructor
     ·intro h
      have := h.2.2
      rw [if_neg hfin, if_pos hN0, e] at this
      exact this.2
     ·intro h
      exact ⟨h1', hsame.out, by rw [if_neg hfin, if_pos hN0, e]; exact ⟨hln, h⟩⟩)
    clear hcb hz hfin hff
    go_wp2_with fail
    go_quiet ((go_at_call 66; exact Calls.quiet_of_same (HQ.out _)))
    go_wp2
    go_ret
    refine ⟨?_, below_drewN' HBQ.out _⟩
    rw [hst.out]
    rfl
   ·have d3 : decide ((F.length : Int) < (rest.length : Int)) = false := by simp; omega
    have hno := Lib.hid (show ¬ StandsI F N r.fin rest from fun h => by have := h.2.2; rw [if_neg hfin, if_pos hN0] at this; exact hln this.1)
    clear hfin hff
    go_wp2_with fail
    go_quiet (fail)
    go_wp2
    go_ret
    refine ⟨?_, below_drewN' HBQ.out _⟩
    rw [decide_eq_false hno.out]
    rfl
  ·have d2 : decide ((N.length : Int) > 0) = false := decide_eq_false (by omega)
   have d2' : decide (0 < (N.length : Int)) = false := decide_eq_false (by omega)
   have hyes := Lib.hid (show StandsI F N r.fin rest from ⟨h1', hsame.out, by rw [if_neg hfin, if_neg hN0]; trivial⟩)
   clear hfin hff
   go_wp2_with fail
   go_ret
   refine ⟨?_, HBQ.out⟩
   rw [decide_eq_true hyes.out]
   rfl
end Go.Proofs.YtabocamjaecaaaaGreatDoor

/- Maps of sets of texts, as rules.Writings keeps them: look-up, a new place, a further text. -/
namespace Go.Proofs.YtabocamjaecaaaaGreatDoor
open Go.RowKit Classical

/-- A place, the block of its set, its texts. -/
abbrev Ent := Nat × Nat × List ByteArray
def tabV (T : List Ent) : List (Value × Value) := T.map fun e => (.int .i64 (e.1 : Int), .map (some e.2.1))
def entAt (T : List Ent) (k : Nat) : Option Ent := T.find? (fun e => e.1 == k)
/-- The block of a place, and its texts. -/
def vAt (T : List Ent) (k : Nat) : Option Nat := (entAt T k).map (fun e => e.2.1)
def tsAt (T : List Ent) (k : Nat) : List ByteArray := ((entAt T k).map (fun e => e.2.2)).getD []
theorem entAt_some {T : List Ent} {k : Nat} {e : Ent} (h : entAt T k = some e) : e ∈ T ∧ e.1 = k := ⟨List.mem_of_find?_eq_some h, by simpa using List.find?_some h⟩
theorem entAt_none {T : List Ent} {k : Nat} (h : entAt T k = none) : ∀ e ∈ T, e.1 ≠ k := fun e he => by simpa using List.find?_eq_none.1 h e he
/-- Where the table lies. -/
structure TabAt (w : World) (b0 base : Nat) (T : List Ent) : Prop where
 map : MapIs w b0 OkInt (tabV T)
 sets : ∀ e ∈ T, SetIs w e.2.1 OkStr (e.2.2.map Value.string)
 lo : ∀ e ∈ T, base ≤ e.2.1
 lo0 : base ≤ b0
 ne0 : ∀ e ∈ T, e.2.1 ≠ b0
 dis : (T.map (fun e => e.2.1)).Nodup
section
variable {w w' : World} {b0 base : Nat} {T : List Ent} {k : Nat}
theorem TabAt.blocks (h : TabAt w b0 base T) (h0 : w'.heap[b0]? = w.heap[b0]?) (hs : ∀ e ∈ T, w'.heap[e.2.1]? = w.heap[e.2.1]?) : TabAt w' b0 base T :=
 ⟨h.map.block h0, fun e he => MapIs.block (h.sets e he) (hs e he), h.lo, h.lo0, h.ne0, h.dis⟩
theorem TabAt.lt (h : TabAt w b0 base T) : ∀ e ∈ T, e.2.1 < w.heap.size := fun e he => MapIs.lt (h.sets e he)
theorem TabAt.below (h : TabAt w b0 base T) (hb : Below w.heap.size w w') : TabAt w' b0 base T :=
 h.blocks (hb.block _ h.map.lt) (fun e he => hb.block _ (h.lt e he))
theorem TabAt.grown (h : TabAt w b0 base T) {r : Nat} (hg : w.grownBy w' (some r)) (h0 : b0 ≠ r) (hs : ∀ e ∈ T, e.2.1 ≠ r) : TabAt w' b0 base T :=
 h.blocks (hg.block _ h.map.lt (fun e => h0 (by injection e))) (fun e he => hg.block _ (h.lt e he) (fun e' => hs e he (by injection e')))
theorem TabAt.keys (h : TabAt w b0 base T) : (T.map (fun e => e.1)).Nodup := by
 have := h.map.nodup
 unfold tabV at this
 rw [List.map_map] at this
 rw [List.nodup_iff_pairwise_ne] at this ⊢
 rw [List.pairwise_map] at this ⊢
 exact this.imp (fun {a b} h e => h (by simp only [Function.comp_apply]; rw [e]))
theorem zero_map (w : World) : (zeroValue 75).run Tryz.prog w = .ok (.map none) w := by kernel_rfl
/-- A look-up. -/
theorem TabAt.look (h : TabAt w b0 base T) (k : Nat) : (Instr.lookup 101 (.map (some b0)) (.int .i64 (k : Int)) false).run Tryz.prog w = .ok (.map (vAt T k)) w := by
 unfold vAt
 cases he : entAt T k with
 | none =>
  have := MapIs.look_none h.map keyInt Tryz.underlying101 (zero_map w) (key := .int .i64 (k : Int)) (okInt _) (fun p hp e => by
   obtain ⟨x, hx, rfl⟩ := List.mem_map.1 hp
   have h1 : (x.1 : Int) = k := by simpa using e
   exact entAt_none he x hx (by omega)) false
  simpa using this
 | some x =>
  obtain ⟨h1, h2⟩ := entAt_some he
  have := MapIs.look_some h.map keyInt Tryz.underlying101 (key := .int .i64 (k : Int)) (v := .map (some x.2.1)) (List.mem_map.2 ⟨x, h1, by rw [h2]⟩) false
  simpa using this
/-- The number of texts at a place. -/
theorem TabAt.len (h : TabAt w b0 base T) (k : Nat) (ty : TypeId) : (Builtin.len_ #[75] ty #[.map (vAt T k)]).run Tryz.prog w = .ok (.int .i64 ((tsAt T k).length : Nat)) w := by
 unfold vAt tsAt
 cases he : entAt T k with
 | none => simpa using Maps.len_nil Tryz.underlying75 ty
 | some x =>
  have := MapIs.len (h.sets x (entAt_some he).1) Tryz.underlying75 ty
  simpa using this
theorem vAt_set (h : TabAt w b0 base T) {b : Nat} (hv : vAt T k = some b) : SetIs w b OkStr ((tsAt T k).map Value.string) ∧ base ≤ b ∧ b ≠ b0 := by
 unfold vAt at hv
 unfold tsAt
 cases he : entAt T k with
 | none => rw [he] at hv; cases hv
 | some x =>
  rw [he] at hv
  cases hv
  have := (entAt_some he).1
  exact ⟨h.sets x this, h.lo x this, h.ne0 x this⟩
theorem tsAt_none (hv : vAt T k = none) : tsAt T k = [] := by
 unfold vAt at hv
 unfold tsAt
 cases he : entAt T k with
 | none => rfl
 | some x => rw [he] at hv; cases hv
theorem vAt_ne (h : TabAt w b0 base T) {j : Nat} {b : Nat} (hv : vAt T k = some b) (hw : vAt T j = some b) : k = j := by
 unfold vAt at hv hw
 cases he : entAt T k with
 | none => rw [he] at hv; cases hv
 | some x =>
  cases hf : entAt T j with
  | none => rw [hf] at hw; cases hw
  | some y =>
   rw [he] at hv
   rw [hf] at hw
   obtain ⟨x1, x2⟩ := entAt_some he
   obtain ⟨y1, y2⟩ := entAt_some hf
   have e : x.2.1 = y.2.1 := (Option.some.inj hv).trans (Option.some.inj hw).symm
   obtain ⟨i, hi, hxi⟩ := List.getElem_of_mem x1
   obtain ⟨l, hl, hyl⟩ := List.getElem_of_mem y1
   have hd := h.dis
   have h3 : i = l := (List.getElem_inj (h₀ := by rw [List.length_map]; exact hi) (h₁ := by rw [List.length_map]; exact hl) hd).1 (by rw [List.getElem_map, List.getElem_map, hxi, hyl]; exact e)
   subst h3
   rw [← x2, ← y2, ← hxi, ← hyl]
/-- A new place. -/
def newT (T : List Ent) (k b : Nat) : List Ent := T ++ [(k, b, [])]
theorem entAt_new {b : Nat} (hn : vAt T k = none) (j : Nat) : entAt (newT T k b) j = if j = k then some (k, b, []) else entAt T j := by
 have h0 : entAt T k = none := by unfold vAt at hn; cases h : entAt T k with | none => rfl | some x => rw [h] at hn; cases hn
 unfold entAt newT at *
 rw [List.find?_append]
 by_cases e : j = k
 ·subst e
  rw [h0, if_pos rfl]
  simp
 ·rw [if_neg e]
  cases h : List.find? (fun e => e.1 == j) T with
  | some x => rfl
  | none => simp [Ne.symm e]
theorem tsAt_new {b : Nat} (hn : vAt T k = none) (j : Nat) : tsAt (newT T k b) j = tsAt T j := by
 unfold tsAt
 rw [entAt_new hn]
 split
 ·rename_i e
  subst e
  have := tsAt_none hn
  unfold tsAt at this
  rw [this]
  rfl
 ·rfl
theorem vAt_new {b : Nat} (hn : vAt T k = none) (j : Nat) : vAt (newT T k b) j = if j = k then some b else vAt T j := by
 unfold vAt
 rw [entAt_new hn]
 split <;> rfl
theorem TabAt.new_place (h : TabAt w b0 base T) (hn : vAt T k = none) (hb : base ≤ w.heap.size) : ∃ w', (Instr.mapUpdate 101 (.map (some b0)) (.int .i64 (k : Int)) (.map (some w.heap.size))).run Tryz.prog (w.alloc (.map #[] 0)) = .ok () w' ∧
  TabAt w' b0 base (newT T k w.heap.size) ∧ Chg (fun b => b = b0) w w' ∧ w'.heap.size = w.heap.size + 1 := by
 have hno : ∀ p ∈ tabV T, p.1 ≠ Value.int .i64 (k : Int) := fun p hp e => by
  obtain ⟨x, hx, rfl⟩ := List.mem_map.1 hp
  have h1 : (x.1 : Int) = k := by simpa using e
  have h0 : entAt T k = none := by unfold vAt at hn; cases h : entAt T k with | none => rfl | some x => rw [h] at hn; cases hn
  exact entAt_none h0 x hx (by omega)
 have hbl : Below w.heap.size w (w.alloc (.map #[] 0)) := (Below.refl _ _).alloc (Nat.le_refl _) _
 obtain ⟨w', h1, h2, h3, h4⟩ := MapIs.put_new (h.map.alloc (.map #[] 0)) keyInt Tryz.underlying101 (key := .int .i64 (k : Int)) (okInt _) hno (.map (some w.heap.size))
 have hA := h.below hbl
 have h0l := h.map.lt
 refine ⟨w', h1, ⟨?_, fun e he => ?_, fun e he => ?_, h.lo0, fun e he => ?_, ?_⟩, ?_, by rw [h4]; simp⟩
 ·unfold newT tabV at *
  rw [List.map_append]
  exact h2
 ·rcases List.mem_append.1 he with he | he
  ·exact MapIs.grown (hA.sets e he) h3 (fun q => h.ne0 e he (by injection q))
  ·obtain rfl := List.mem_singleton.1 he
   exact MapIs.grown (SetIs.made w OkStr) h3 (fun q => by have q' : w.heap.size = b0 := Option.some.inj q; omega)
 ·rcases List.mem_append.1 he with he | he
  ·exact h.lo e he
  ·obtain rfl := List.mem_singleton.1 he
   exact hb
 ·rcases List.mem_append.1 he with he | he
  ·exact h.ne0 e he
  ·obtain rfl := List.mem_singleton.1 he
   show w.heap.size ≠ b0
   omega
 ·unfold newT
  rw [List.map_append, List.nodup_append]
  refine ⟨h.dis, by simp, fun a ha b hb => ?_⟩
  obtain ⟨x, hx, rfl⟩ := List.mem_map.1 ha
  have := h.lt x hx
  have hb' : b = w.heap.size := by simpa using hb
  omega
 ·exact (Chg.alloc _ w _).trans (Chg.of_grown h3 (fun r hr => by cases hr; exact .inl rfl))
/-- A further text. -/
noncomputable def putT (T : List Ent) (k : Nat) (s : ByteArray) : List Ent := T.map fun e => if e.1 = k then (e.1, e.2.1, addS e.2.2 s) else e
theorem entAt_put (s : ByteArray) (j : Nat) : entAt (putT T k s) j = (entAt T j).map fun e => if e.1 = k then (e.1, e.2.1, addS e.2.2 s) else e := by
 unfold entAt putT
 rw [List.find?_map]
 congr 1
 refine congrFun (congrArg _ (funext fun e => ?_)) T
 simp only [Function.comp_apply]
 split <;> rfl
theorem vAt_put (s : ByteArray) (j : Nat) : vAt (putT T k s) j = vAt T j := by
 unfold vAt
 rw [entAt_put]
 cases entAt T j with
 | none => rfl
 | some x => simp only [Option.map_some]; split <;> rfl
theorem tsAt_put {s : ByteArray} {b : Nat} (hv : vAt T k = some b) (j : Nat) (t : ByteArray) : t ∈ tsAt (putT T k s) j ↔ t ∈ tsAt T j ∨ (j = k ∧ t = s) := by
 unfold tsAt
 rw [entAt_put]
 cases he : entAt T j with
 | none =>
  constructor
  ·intro h; simp at h
  ·rintro (h | ⟨rfl, _⟩)
   ·simp at h
   ·unfold vAt at hv; rw [he] at hv; cases hv
 | some x =>
  obtain ⟨h1, h2⟩ := entAt_some he
  simp only [Option.map_some, Option.getD_some]
  by_cases e : x.1 = k
  ·rw [if_pos e]
   simp only [mem_addS]
   constructor
   ·rintro (h | h)
    ·exact .inl h
    ·exact .inr ⟨h2.symm.trans e, h⟩
   ·rintro (h | ⟨_, h⟩)
    ·exact .inl h
    ·exact .inr h
  ·rw [if_neg e]
   constructor
   ·exact .inl
   ·rintro (h | ⟨h, _⟩)
    ·exact h
    ·exact absurd (h2.trans h) e
theorem TabAt.put (h : TabAt w b0 base T) {b : Nat} (hv : vAt T k = some b) (s : ByteArray) : ∃ w', (Instr.mapUpdate 75 (.map (some b)) (.string s) (.bool true)).run Tryz.prog w = .ok () w' ∧
  TabAt w' b0 base (putT T k s) ∧ w.grownBy w' (some b) ∧ w'.heap.size = w.heap.size := by
 obtain ⟨hs, hlo, hne⟩ := vAt_set h hv
 obtain ⟨w', h1, h2, h3, h4⟩ := SetIs.put hs keyStr Tryz.underlying75 (key := .string s) (okStr s)
 have h2 := addS_set h2
 have hb : ∀ x ∈ T, x.1 = k → x.2.1 = b ∧ x.2.2 = tsAt T k := fun x hx e => by
  have hk := h.keys
  unfold vAt at hv
  unfold tsAt
  cases he : entAt T k with
  | none => exact absurd e (entAt_none he x hx)
  | some y =>
   rw [he] at hv
   obtain ⟨y1, y2⟩ := entAt_some he
   obtain ⟨i, hi, hxi⟩ := List.getElem_of_mem hx
   obtain ⟨l, hl, hyl⟩ := List.getElem_of_mem y1
   have h3 : i = l := (List.getElem_inj (h₀ := by rw [List.length_map]; exact hi) (h₁ := by rw [List.length_map]; exact hl) hk).1 (by rw [List.getElem_map, List.getElem_map, hxi, hyl, e, y2])
   subst h3
   rw [hxi] at hyl
   subst hyl
   exact ⟨Option.some.inj hv, rfl⟩
 have hmem : ∀ e ∈ putT T k s, ∃ x ∈ T, e.1 = x.1 ∧ e.2.1 = x.2.1 := fun e he => by
  obtain ⟨x, hx, rfl⟩ := List.mem_map.1 he
  refine ⟨x, hx, ?_⟩
  split <;> exact ⟨rfl, rfl⟩
 have emap : (putT T k s).map (fun e => e.2.1) = T.map (fun e => e.2.1) := by
  unfold putT
  rw [List.map_map]
  refine List.map_congr_left (fun x _ => ?_)
  simp only [Function.comp_apply]
  split <;> rfl
 have etab : tabV (putT T k s) = tabV T := by
  unfold tabV putT
  rw [List.map_map]
  refine List.map_congr_left (fun x _ => ?_)
  simp only [Function.comp_apply]
  split <;> rfl
 have hmap : MapIs w' b0 OkInt (tabV T) := MapIs.grown h.map h3 (fun q => hne (Option.some.inj q).symm)
 refine ⟨w', h1, ⟨by rw [etab]; exact hmap, fun e he => ?_, fun e he => ?_, h.lo0, fun e he => ?_, by rw [emap]; exact h.dis⟩, h3, h4⟩
 ·obtain ⟨x, hx, rfl⟩ := List.mem_map.1 he
  by_cases e : x.1 = k
  ·rw [if_pos e]
   obtain ⟨e1, e2⟩ := hb x hx e
   show SetIs w' x.2.1 OkStr ((addS x.2.2 s).map Value.string)
   rw [e1, e2]
   exact h2
  ·rw [if_neg e]
   refine MapIs.grown (h.sets x hx) h3 (fun q => ?_)
   injection q with q
   have he : vAt T x.1 = some x.2.1 := by
    unfold vAt
    cases hf : entAt T x.1 with
    | none => exact absurd rfl (entAt_none hf x hx)
    | some y =>
     obtain ⟨y1, y2⟩ := entAt_some hf
     obtain ⟨i, hi, hxi⟩ := List.getElem_of_mem hx
     obtain ⟨l, hl, hyl⟩ := List.getElem_of_mem y1
     have h3 : i = l := (List.getElem_inj (h₀ := by rw [List.length_map]; exact hi) (h₁ := by rw [List.length_map]; exact hl) h.keys).1 (by rw [List.getElem_map, List.getElem_map, hxi, hyl, y2])
     subst h3
     rw [hxi] at hyl
     rw [← hyl]
     rfl
   rw [q] at he
   exact e (vAt_ne h he hv)
 ·obtain ⟨x, hx, e1, e2⟩ := hmem e he
  rw [e2]; exact h.lo x hx
 ·obtain ⟨x, hx, e1, e2⟩ := hmem e he
  rw [e2]; exact h.ne0 x hx
end
theorem readGo_len (L : List (List UInt8)) : ∀ (f : Nat) (t : List UInt8) (o : Nat) (acc : List Int), (readGo L f t o acc).letters.length ≤ acc.length + f
 | 0, t, o, acc => by
  unfold readGo
  split
  ·simp
  ·split <;> simp
 | f + 1, t, o, acc => by
  unfold readGo
  split
  ·simp
  ·split
   ·simp
   ·rename_i k _
    have := fun t o x => readGo_len L f t o (acc ++ [x])
    simp only [List.length_append, List.length_cons, List.length_nil] at this
    refine Nat.le_trans (this _ _ _) (by omega)
theorem rdL_len (L : List (List UInt8)) (t : List UInt8) : (rdL L t).length ≤ 24 := by
 unfold rdL readL
 split
 ·simp
 ·simpa using readGo_len L 24 t 0 []
theorem lettersL_rd (L : List (List UInt8)) (t : List UInt8) : lettersL L t = rdL L t := by
 unfold lettersL rdL
 split
 ·rename_i h; rw [h]; simp [readL]
 ·rfl
end Go.Proofs.YtabocamjaecaaaaGreatDoor

/- The texts of a place, sorted (slices.Sorted of maps.Keys); what is written at its own place. -/
namespace Go.Proofs.YtabocamjaecaaaaGreatDoor
open Go.RowKit Go.Sort Classical

theorem sorted_keys {w : World} {b0 base : Nat} {T : List Ent} (h : TabAt w b0 base T) (k : Nat) (hsz : ∀ s ∈ tsAt T k, s.size ≤ maxLen) (hl : (tsAt T k).length ≤ 200) :
  Calls Tryz.prog 28 #[.func (.func 54) #[] #[.pointer (some ⟨w.heap.size, 0, none⟩)]] (w.alloc (.cells #[.map (vAt T k)] 75)) fun e w' =>
   ∃ a cp ts, e = .returned (.slice a ts.length cp) ∧ RowAt w' w'.heap.size a (strs ts) ∧ SortedB ts ∧ (∀ t, t ∈ ts ↔ t ∈ tsAt T k) ∧ Below w.heap.size w w' := by
 have hbl : Below w.heap.size w (w.alloc (.cells #[.map (vAt T k)] 75)) := (Below.refl _ _).alloc (Nat.le_refl _) _
 cases hv : vAt T k with
 | none =>
  rw [hv] at hbl
  refine ((callsIn_wide (n := 5)).1 (Tryz.slices_Sorted_keys_nil_28_29 w)).mono ?_
  rintro e w4 ⟨v4, ss, rfl, rfl, hown4, _, hb4⟩
  obtain ⟨a4, c4, rfl, -, hr4⟩ := RowAt.of_own hown4
  exact ⟨a4, c4, [], rfl, fun hn => by simp [strs] at hn, ⟨by simp, by simp⟩, fun t => by rw [tsAt_none hv], hbl.trans (hb4.mono hbl.size)⟩
 | some b =>
  rw [hv] at hbl
  obtain ⟨hs, -, -⟩ := vAt_set h hv
  obtain ⟨D0, hown, hperm, hDs⟩ := owns_strs Tryz.underlying9 hs hsz (by unfold maxLen; omega)
  refine ((callsIn_wide (n := 5)).1 (Tryz.slices_Sorted_keys_28_29 b (tsAt T k).length D0 _ w hown (by rw [hDs]; unfold maxLen; omega) (by rw [hDs]; omega))).mono ?_
  rintro e w4 ⟨v4, ss, rfl, hss, hown4, _, hb4⟩
  obtain ⟨a4, c4, rfl, -, hr4⟩ := RowAt.of_own hown4
  obtain ⟨ts, hts⟩ : ∃ ts : List ByteArray, ts = (ss.mergeSort (fun x y => decide (x ≤ y))).map (fun l => (⟨l.toArray⟩ : ByteArray)) := ⟨_, rfl⟩
  have htb : ts.map bl = ss.mergeSort (fun x y => decide (x ≤ y)) := by
   rw [hts, List.map_map]
   conv => rhs; rw [← List.map_id (ss.mergeSort (fun x y => decide (x ≤ y)))]
   exact List.map_congr_left (fun l _ => by simp [bl])
  have hte : strs ts = (ss.mergeSort (fun x y => decide (x ≤ y))).map encStr := by
   rw [hts, strs, List.map_map]
   exact List.map_congr_left (fun l _ => rfl)
  have htl : ts.length = ss.length := by rw [hts, List.length_map, List.length_mergeSort]
  have hnd : ((tsAt T k).map bl).Nodup := by
   have h1 := SetIs.nodup hs
   exact List.pairwise_map.2 ((List.pairwise_map.1 h1).imp (fun {a b} (hne : Value.string a ≠ Value.string b) (e : bl a = bl b) => hne (congrArg Value.string (bl_inj e))))
  refine ⟨a4, c4, ts, by rw [htl], by rw [hte]; exact hr4, ⟨?_, ?_⟩, fun t => ?_, hbl.trans (hb4.mono hbl.size)⟩
  ·rw [htb]
   have := List.pairwise_mergeSort (le := fun x y : List UInt8 => decide (x ≤ y)) (fun a b c h1 h2 => by simp only [decide_eq_true_eq] at *; exact List.le_trans h1 h2) (fun a b => by simp only [Bool.or_eq_true, decide_eq_true_eq]; exact List.le_total a b) ss
   exact this.imp (fun h => by simpa using h)
  ·rw [htb]
   exact ((List.mergeSort_perm _ _).trans (hss.trans hperm)).nodup_iff.2 hnd
  ·have h1 : bl t ∈ ts.map bl ↔ bl t ∈ (tsAt T k).map bl := by
    rw [htb]; exact ((List.mergeSort_perm _ _).trans (hss.trans hperm)).mem_iff
   rw [List.mem_map, List.mem_map] at h1
   constructor
   ·intro h
    obtain ⟨s, hs, e⟩ := h1.1 ⟨t, h, rfl⟩
    rw [← bl_inj e]; exact hs
   ·intro h
    obtain ⟨s, hs, e⟩ := h1.2 ⟨t, h, rfl⟩
    rw [← bl_inj e]; exact hs
section
variable {L : List (List UInt8)} {all : List RulL} {wd : List Int}
/-- At its own place, all is written whatever rules were tried there. -/
theorem wriX_own (hT : Told L) (hl : ∀ x ∈ all, x.lett L) {k : Nat} {done : List RulL} (hd : ∀ x ∈ done, x ∈ all) {t : List UInt8} : WriX L all wd k done k t ↔ Writ L all wd k t := by
 rw [← wriK_own hT hl]
 unfold WriX
 constructor
 ·rintro (h | ⟨s, x, _, h2, h3⟩)
  ·exact h
  ·have := rd_pos hT (hl x (hd x h2)).src
   have h4 := h3.2.1
   omega
 ·exact .inl
end
theorem own_parts {w : World} {base : Nat} {e : TypeId} {n : Nat} {v : Value} {zs : List Int} (h : w.ownsRow base e 1 v n (nums zs)) (hn : 0 < n) :
  ∃ g cap, v = .slice (some ⟨g, 0, none⟩) n cap ∧ n ≤ cap ∧ cap ≤ maxLen ∧ base ≤ g ∧ g < w.heap.size ∧ ∀ i (hi : i < zs.length), w.cell? ⟨g, i, none⟩ = some (.int .i64 zs[i]) := by
 obtain ⟨a, c, e1, -, hr⟩ := RowAt.of_own h
 obtain ⟨hl, h1⟩ := h
 rcases h1 with ⟨rfl, rfl⟩ | ⟨g, cap, cur, rfl, hb, hh, hc, hm, _, ht⟩
 ·omega
 ·have hz : 0 < zs.length := by
   have : (nums zs).length = zs.length := by simp [nums]
   omega
  cases e1
  obtain ⟨b, off, e2, hlt, hcell⟩ := hr.nums hz
  cases e2
  exact ⟨g, _, rfl, hc, hm, hb, hlt, fun i hi => by have := hcell i hi; rwa [Nat.zero_add] at this⟩
theorem row_drop {w : World} {B g k : Nat} {zs : List Int} (hlt : g < B) (h : ∀ i (hi : i < zs.length), w.cell? ⟨g, i, none⟩ = some (.int .i64 zs[i])) : RowAt w B (some ⟨g, k, none⟩) (nums (zs.drop k)) := fun _ =>
 ⟨g, k, rfl, hlt, fun i x hx => by
  unfold nums at hx
  rw [List.getElem?_map, List.getElem?_drop] at hx
  cases hz : zs[k + i]? with
  | none => rw [hz] at hx; cases hx
  | some z =>
   rw [hz] at hx
   obtain ⟨hlt, e⟩ := List.getElem?_eq_some_iff.1 hz
   rw [h (k + i) hlt, e]
   exact hx⟩
end Go.Proofs.YtabocamjaecaaaaGreatDoor
