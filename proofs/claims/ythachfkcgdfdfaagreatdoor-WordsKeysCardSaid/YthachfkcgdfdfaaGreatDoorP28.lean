/- BZ · SQ -/
import Derived.Test.YthachfkcgdfdfaaGreatDoorP26
import Derived.Deep.AppendLies
/- Walk: the closure of words.Spell that gathers the spellings. -/
namespace Go.Proofs.YthachfkcgdfdfaaGreatDoor
open Go.RowKit Go.Shelf Classical

theorem info_sp17 : (Tryz.prog.info? 52).map (fun i => (i.zero, i.size, i.bytes)) = some (some (.agg #[.slice none 0 0, .int .i64 0]), 2, 32) := by kernel_rfl
/-- A block of spellings. -/
def SpBlk (B : Nat) (w : World) (k : Nat) : Prop := B ≤ k ∧ ∃ cur, w.heap[k]? = some (.cells cur 52 (0, 0))
theorem SpBlk.own {w : World} {base n : Nat} {v : Value} {xs : List Value} (h : w.ownsRow base 52 2 v n xs) {k : Nat} (hk : v.ownBlock = some k) : SpBlk base w k := by
 rcases h.2 with ⟨rfl, -⟩ | ⟨g, cap, cur, rfl, hb, hh, -⟩
 ·cases hk
 ·have : g = k := by simpa [Value.ownBlock] using hk
  subst this; exact ⟨hb, cur, hh⟩
theorem SpBlk.not_row {w : World} {base n : Nat} {v : Value} {xs : List Value} (h : w.ownsRow base 9 1 v n xs) {k : Nat} (hk : v.ownBlock = some k) (B : Nat) : ¬ SpBlk B w k := by
 rintro ⟨-, cur2, h2⟩
 rcases h.2 with ⟨rfl, -⟩ | ⟨g, cap, cur, rfl, -, hh, -⟩
 ·cases hk
 ·have : g = k := by simpa [Value.ownBlock] using hk
  subst this
  rw [hh] at h2
  cases h2
/-- The gathered spellings of a call. -/
def SpNew (w0 w : World) (new : List Spl) : Prop := ∀ x ∈ new, x.ws.length ≤ maxLen ∧ w.ownsRow w0.heap.size 9 1 (.slice x.at_ x.ws.length x.cap) x.ws.length (strs x.ws)
def SpPost (W0 : World) (ob : Nat) (v : Value) (ws : List ByteArray) (_ : Value) (L : List Spl) (K : List (List ByteArray × Int)) (wr : World) (e : Ending) (w' : World) : Prop :=
 e = .returned (.tuple #[]) ∧ ∃ ov' new, Boxed w' ob 36 ov' ∧ w'.ownsRow W0.heap.size 52 2 ov' (L ++ new).length ((L ++ new).flatMap Spl.cells) ∧
  w'.ownsRow W0.heap.size 9 1 v ws.length (strs ws) ∧ new.map Spl.key = K ∧ SpNew wr w' new ∧ Chg (fun k => k = ob ∨ some k = v.ownBlock ∨ SpBlk W0.heap.size wr k) wr w'
theorem Chg.grown_in {S : Nat → Prop} {w X Y : World} {row : Option Nat} (h : Chg S w X) (hg : X.grownBy Y row) (hr : ∀ r, row = some r → S r) : Chg S w Y :=
 ⟨hg.os.trans h.os, hg.tape.trans h.tape, hg.output.trans h.output, Nat.le_trans h.size hg.size, fun k hk hS => (hg.block k (Nat.lt_of_lt_of_le hk h.size) (fun e => hS (hr k e.symm))).trans (h.block k hk hS)⟩
/-- A spelling is gathered. -/
theorem sp_done {W0 wr w1 w2 : World} {ob : Nat} {v : Value} {ws : List ByteArray} {ov : Value} {L : List Spl} {cost : Int} {ca : Option Addr} {cc g cap : Nat} (hws : ws.length ≤ maxLen) (hob : ob < W0.heap.size) (hch : Chg (· = ob) W0 wr) (hcb : Below wr.heap.size wr w1)
  (hbo : Boxed wr ob 36 ov) (hvr : wr.ownsRow W0.heap.size 9 1 v ws.length (strs ws)) (hor : wr.ownsRow W0.heap.size 52 2 ov L.length (L.flatMap Spl.cells)) (hor1 : w1.ownsRow W0.heap.size 52 2 ov L.length (L.flatMap Spl.cells))
  (hcr : w1.ownsRow wr.heap.size 9 1 (.slice ca ws.length cc) ws.length (strs ws))
  (hown1 : w2.ownsRow W0.heap.size 52 2 (.slice (some ⟨g, 0, none⟩) (L.length + 1) cap) (L.length + 1) (L.flatMap Spl.cells ++ [.slice ca ws.length cc, .int .i64 cost]))
  (hgrow : (w1.alloc (.cells #[.slice ca ws.length cc, .int .i64 cost] 52)).grownBy w2 ov.ownBlock) :
  SpPost W0 ob v ws ov L [(ws, cost)] wr (.returned (.tuple #[])) (w2.setCell ⟨ob, 0, none⟩ (.slice (some ⟨g, 0, none⟩) (L.length + 1) cap)) := by
 have hob2 : ob < wr.heap.size := Nat.lt_of_lt_of_le hob hch.size
 have kb : Blk w1 ob #[ov] 36 := (hcb.block ob hob2).trans hbo
 have b2 := (kb.alloc (.cells #[.slice ca ws.length cc, .int .i64 cost] 52)).grown hgrow (fun e => Blk.own_ne kb hor1 (by decide) e.symm)
 have hv1 : w1.ownsRow W0.heap.size 9 1 v ws.length (strs ws) := own_up hvr (Chg.of_below (fun _ => False) hcb) (fun _ h => h.elim)
 have hv2 := own_kept_other (hv1.alloc (.cells #[.slice ca ws.length cc, .int .i64 cost] 52)) (hor1.alloc (.cells #[.slice ca ws.length cc, .int .i64 cost] 52)) (by decide) hgrow
 have hc2 := own_kept_other (hcr.alloc (.cells #[.slice ca ws.length cc, .int .i64 cost] 52)) (hor1.alloc (.cells #[.slice ca ws.length cc, .int .i64 cost] 52)) (by decide) hgrow
 have far : ∀ {base : Nat} {e : TypeId} {size n : Nat} {u : Value} {xs : List Value}, W0.heap.size ≤ base → w2.ownsRow base e size u n xs → (w2.setCell ⟨ob, 0, none⟩ (.slice (some ⟨g, 0, none⟩) (L.length + 1) cap)).ownsRow base e size u n xs := fun hb h =>
  own_setCell h (fun e => by have := (h.lt _ e).1; show False; simp at this; omega) _
 have hc3 := far hch.size hc2
 refine ⟨rfl, _, [⟨ca, cc, ws, cost⟩], b2.set_ 0 _, ?_, far (Nat.le_refl _) hv2, rfl, ?_, ?_⟩
 ·have := far (Nat.le_refl _) hown1
  rw [List.length_append, List.flatMap_append]
  exact this
 ·intro x hx
  obtain rfl := List.mem_singleton.1 hx
  exact ⟨hws, hc3⟩
 ·exact ((((Chg.of_below _ hcb).trans (Chg.of_below _ ((Below.refl _ _).alloc (Nat.le_refl _) _))).grown_in hgrow (fun r e => .inr (.inr (SpBlk.own hor e)))).set_in (.inl rfl) 0 _)
theorem flatMap_same {α β : Type} {f : α → List β} {m : Nat} (h : ∀ x, (f x).length = m) : ∀ l : List α, (l.flatMap f).length = l.length * m
 | [] => by simp
 | x :: l => by rw [List.flatMap_cons, List.length_append, flatMap_same h l, h, List.length_cons, Nat.succ_mul]; omega
theorem room_left {L new : List Spl} {C : List (ByteArray × Int)} {Ds : List (List (ByteArray × Int))} {ws : List ByteArray} {cost : Int} {j : Nat} (hj : j < C.length) (h : new.map Spl.key = (C.take j).flatMap (fun p => exts Ds (ws ++ [p.1]) (cost + p.2))) (hL : L.length + prodN (C :: Ds) ≤ 64) : (L ++ new).length + prodN Ds ≤ 64 := by
 have h1 := congrArg List.length h
 rw [List.length_map, flatMap_same (m := prodN Ds) (fun p => exts_length _ _ _), List.length_take, Nat.min_eq_left (by omega)] at h1
 rw [prodN_cons] at hL
 have h2 : (j + 1) * prodN Ds ≤ C.length * prodN Ds := Nat.mul_le_mul_right _ hj
 rw [Nat.succ_mul] at h2
 rw [List.length_append]
 omega
/-- A round of the closure's loop. -/
theorem sp_round {W0 wp wr w2 w3 : World} {ob n : Nat} {v v' : Value} {o : Obj} {xs : List Value} {u : Value} {new new3 : List Spl} (hob : ob < W0.heap.size) (hchp : Chg (· = ob) W0 wp) (hvp : wp.ownsRow W0.heap.size 9 1 v n xs)
  (hchj : Chg (fun k => k = ob ∨ some k = v.ownBlock ∨ SpBlk W0.heap.size wp k) wp wr) (hvr : wr.ownsRow W0.heap.size 9 1 v n xs) (hsn : SpNew wp wr new)
  (hkeep : (∃ g cap, v = .slice (some ⟨g, 0, none⟩) n cap ∧ v' = .slice (some ⟨g, 0, none⟩) (n + 1) cap ∧ (wr.alloc o).drew.grownBy w2 (some g)) ∨ ((∀ g, v'.ownBlock = some g → (wr.alloc o).drew.heap.size ≤ g) ∧ (wr.alloc o).drew.grownBy w2 none))
  (k3 : w3.ownsRow W0.heap.size 9 1 v' (n + 1) (xs ++ [u])) (k5 : SpNew w2 w3 new3) (k6 : Chg (fun k => k = ob ∨ some k = v'.ownBlock ∨ SpBlk W0.heap.size w2 k) w2 w3) :
  w3.ownsRow W0.heap.size 9 1 v n xs ∧ SpNew wp w3 (new ++ new3) ∧ Chg (fun k => k = ob ∨ some k = v.ownBlock ∨ SpBlk W0.heap.size wp k) wp w3 := by
 have hbx : Below wr.heap.size wr (wr.alloc o).drew := ((Below.refl _ _).alloc (Nat.le_refl _) _).drew
 have hvb : ∀ g, v.ownBlock = some g → g < wp.heap.size := fun g hg => (hvp.lt g hg).2
 have h12 : Chg (fun k => some k = v.ownBlock) wr w2 := by
  rcases hkeep with ⟨g, cap, rfl, -, hg⟩ | ⟨-, hg⟩
  ·exact (Chg.of_below _ hbx).grown_in hg (fun r e => by cases e; rfl)
  ·exact (Chg.of_below _ hbx).grown_in hg (fun r e => by cases e)
 have hv'b : ∀ g, v'.ownBlock = some g → v.ownBlock = some g ∨ wr.heap.size ≤ g := by
  intro g hg
  rcases hkeep with ⟨g2, cap, rfl, rfl, -⟩ | ⟨h1, -⟩
  ·exact .inl hg
  ·exact .inr (Nat.le_trans hbx.size (h1 g hg))
 refine ⟨?_, ?_, ?_⟩
 ·rcases hkeep with ⟨g, cap, rfl, rfl, -⟩ | ⟨h1, hg⟩
  ·obtain ⟨hl, h | ⟨g2, cap2, cur, e, hb, hh, h2, h3, h4, h5⟩⟩ := k3
   ·cases h.1
   ·cases e
    have hxl := hvr.1
    refine ⟨hxl, .inr ⟨_, _, cur, rfl, hb, hh, by omega, h3, h4, ?_⟩⟩
    have h6 := congrArg (List.take (n * 1)) h5
    rw [List.take_take, Nat.min_eq_left (by omega), List.take_append_of_le_length (by omega)] at h6
    rw [h6, List.take_of_length_le (by omega)]
  ·have hv2 : w2.ownsRow W0.heap.size 9 1 v n xs := own_chg hvr ((Chg.of_below (fun _ => False) hbx).grown_in hg (fun r e => by cases e)) (fun _ _ h => h)
   refine own_chg hv2 k6 (fun q hq hs => ?_)
   rcases hs with e | e | e
   ·have := (hvr.lt q hq).1; omega
   ·have h2 := h1 q e.symm; have := (hvr.lt q hq).2; have := hbx.size; omega
   ·exact SpBlk.not_row hv2 hq _ e
 ·intro x hx
  rcases List.mem_append.1 hx with hx | hx
  ·obtain ⟨y1, y2⟩ := hsn x hx
   have z2 := own_chg y2 h12 (fun q hq hs => by have := (y2.lt q hq).1; have := hvb q hs.symm; omega)
   refine ⟨y1, own_chg z2 k6 (fun q hq hs => ?_)⟩
   have q1 := y2.lt q hq
   rcases hs with e | e | e
   ·have := hchp.size; omega
   ·rcases hv'b q e.symm with e | e
    ·have := hvb q e; omega
    ·omega
   ·exact SpBlk.not_row z2 hq _ e
  ·obtain ⟨y1, y2⟩ := k5 x hx
   exact ⟨y1, own_base y2 (Nat.le_trans hchj.size h12.size)⟩
 ·refine ⟨k6.os.trans (h12.os.trans hchj.os), k6.tape.trans (h12.tape.trans hchj.tape), k6.output.trans (h12.output.trans hchj.output), Nat.le_trans hchj.size (Nat.le_trans h12.size k6.size), fun k hk hS => ?_⟩
  have hk2 : k < wr.heap.size := Nat.lt_of_lt_of_le hk hchj.size
  have e2 : w2.heap[k]? = wp.heap[k]? := (h12.block k hk2 (fun e => hS (.inr (.inl e)))).trans (hchj.block k hk hS)
  refine (k6.block k (Nat.lt_of_lt_of_le hk2 h12.size) ?_).trans e2
  rintro (e | e | ⟨e, cur, h⟩)
  ·exact hS (.inl e)
  ·rcases hv'b k e.symm with e | e
   ·exact hS (.inr (.inl e.symm))
   ·omega
  ·exact hS (.inr (.inr ⟨e, cur, e2 ▸ h⟩))
set_option maxRecDepth 100000 in
set_option maxHeartbeats 4000000 in
theorem sp2_any (W0 : World) (pw ob pc pr pk : Nat) (W : List ByteArray) (hW1 : 1 ≤ W.length) (hW : W.length ≤ 12) (Cs : List (List (ByteArray × Int))) (hCs : Cs.length = W.length) (hob : ob < W0.heap.size)
  (wa : Option Addr) (wc cm km : Nat) (RA : Nat → Option Addr) (RC : Nat → Nat) (HX : ∀ wr, Chg (· = ob) W0 wr → wr.cell? ⟨pw, 0, none⟩ = some (.slice wa W.length wc) ∧ RowAt wr wr.heap.size wa (strs W) ∧ wr.cell? ⟨pc, 0, none⟩ = some (.map (some cm)) ∧ wr.cell? ⟨pk, 0, none⟩ = some (.map (some km)) ∧
   wr.cell? ⟨pr, 0, none⟩ = some (.func (.func 38) #[] #[.pointer (some ⟨pw, 0, none⟩), .pointer (some ⟨ob, 0, none⟩), .pointer (some ⟨pc, 0, none⟩), .pointer (some ⟨pr, 0, none⟩), .pointer (some ⟨pk, 0, none⟩)]) ∧
   (∀ (k : Nat) (w : ByteArray) (C : List (ByteArray × Int)), W[k]? = some w → Cs[k]? = some C → RowAt wr wr.heap.size (RA k) (strs (C.map (·.1))) ∧ (Instr.lookup 71 (.map (some cm)) (.string w) false).run Tryz.prog wr = .ok (.slice (RA k) C.length (RC k)) wr ∧
    ∀ p ∈ C, (Instr.lookup 67 (.map (some km)) (.agg #[.string w, .string p.1]) false).run Tryz.prog wr = .ok (.int .i64 p.2) wr))
  (hcost : ∀ C ∈ Cs, ∀ p ∈ C, 0 ≤ p.2 ∧ p.2 ≤ 1000) (hpos : ∀ C ∈ Cs, 1 ≤ C.length ∧ C.length ≤ 64) :
  ∀ (k : Nat) (ws : List ByteArray) (cost : Int) (v : Value) (L : List Spl) (ov : Value) (wr : World), ws.length + k = W.length → 0 ≤ cost → cost ≤ 1000 * ws.length → L.length + prodN (Cs.drop ws.length) ≤ 64 → Chg (· = ob) W0 wr →
   Boxed wr ob 36 ov → wr.ownsRow W0.heap.size 52 2 ov L.length (L.flatMap Spl.cells) → wr.ownsRow W0.heap.size 9 1 v ws.length (strs ws) →
   Calls Tryz.prog 38 #[v, .int .i64 cost, .pointer (some ⟨pw, 0, none⟩), .pointer (some ⟨ob, 0, none⟩), .pointer (some ⟨pc, 0, none⟩), .pointer (some ⟨pr, 0, none⟩), .pointer (some ⟨pk, 0, none⟩)] wr (SpPost W0 ob v ws ov L (exts (Cs.drop ws.length) ws cost) wr) := by
 have HX' := Lib.hid HX
 clear HX
 obtain ⟨ii, hii, hii0, hii1, hii2⟩ := info_parts info_sp17
 obtain ⟨i0, hi, hz0, hz1, hz2⟩ := info_parts info_str17
 intro k
 induction k with
 | zero =>
  intro ws cost v L ov wr hk hc0 hc1 hL hch hbo hor hvr
  have hlen : ws.length = W.length := by omega
  obtain ⟨x0, -, -, -, -, -⟩ := HX'.out wr hch
  obtain ⟨va, vc, rfl, hvl, hva⟩ := RowAt.of_own hvr
  have hex : exts (Cs.drop ws.length) ws cost = [(ws, cost)] := by rw [List.drop_of_length_le (by omega)]; rfl
  rw [hex]
  have d1 : ((ws.length : Int) == (W.length : Int)) = true := by simp [hlen]
  have Hlen := Lib.hid hlen
  have hws1 : 1 ≤ ws.length := by omega
  clear hlen hk
  go_enter Tryz.func38, Tryz.ntmps38
  go_upto_region 1 with (fail)
  clear x0
  have hvl' : ∃ g, va = some ⟨g, 0, none⟩ ∧ ws.length ≤ vc := by
   rcases hvr.2 with ⟨-, h0⟩ | ⟨g, cap, cur, e, -, -, h1, -⟩
   ·omega
   ·cases e; exact ⟨g, rfl, h1⟩
  obtain ⟨vg, rfl, hvc⟩ := hvl'
  have hvg := (hvr.lt vg rfl).2
  obtain ⟨oa, oc, rfl, hol, hoa⟩ := RowAt.of_own hor
  have HCl := Lib.hid (fun (q : Nat) => Tryz.slices_Clone_string vg 0 ws.length vc ws (wr.drewN q) (Nat.le_refl _) (by have := Hlen.out; omega) (fun j hj => by
   obtain ⟨b2, o2, e2, -, hc⟩ := hva (by simp [strs]; omega)
   cases e2
   exact hc j _ (by simp [strs, hj])))
  have hob2 : ob < wr.heap.size := Nat.lt_of_lt_of_le hob hch.size
  have cob : wr.cell? ⟨ob, 0, none⟩ = some _ := hbo.cell
  have fob := hbo.frozen
  refine wp_region_held_drew (S := fun _ => True) (by kernel_rfl) trivial (fun hHeld => ?_)
  refine wpAnyH_take (i := 1) (v := ?_) rfl (by kernel_rfl) (by kernel_rfl) (by kernel_rfl) (fun _ _ _ h => h) (Or.inl ⟨by rfl, ?_⟩) (by assumption) ?_
  rotate_left
  ·intro w' hSw; first | (go_simp; done) | (go_simp; with_reducible rfl)
  try simp only [Act.put, List.setIfInBounds_toArray]
  refine wpAnyH_take (i := 3) (v := ?_) rfl (by kernel_rfl) (by kernel_rfl) (by kernel_rfl) (fun _ _ _ h => h) (Or.inl ⟨by rfl, ?_⟩) (by assumption) ?_
  rotate_left
  ·intro w' hSw; first | (go_simp; done) | (go_simp; with_reducible rfl)
  try simp only [Act.put]
  refine wpAnyH_ready (rs := [0, 2]) (by kernel_rfl) (by simp) ?_
  refine AllReadyH.cons rfl (fun K hK => ?_) (AllReadyH.cons rfl (fun K hK => ?_) AllReadyH.nil)
  ·go_simp
   refine hK.out _ _ trivial (fun _ => ?_)
   clear hK K
   try simp only [Act.put, List.setIfInBounds_toArray, List.set_cons_zero, List.set_cons_succ]
   refine wpAnyH_ready (rs := [2]) (by kernel_rfl) (by simp) ?_
   refine AllReadyH.cons rfl (fun K hK => ?_) AllReadyH.nil
   go_simp
   go_at_call 39
   refine (HCl.out 1).mono ?_
   rintro e w1 ⟨cv, rfl, hcr, hcn, hcb⟩
   rw [List.take_length] at hcr
   obtain ⟨ca, cc, rfl, hcl, hca⟩ := RowAt.of_own hcr
   go_simp
   refine hK.out _ _ trivial (fun _ => ?_)
   clear hK K
   have hbo1 : Boxed w1 ob 36 (.slice oa L.length oc) := (hcb.block ob (by simpa using hob2)).trans hbo
   have hor1 : w1.ownsRow W0.heap.size 52 2 (.slice oa L.length oc) L.length (L.flatMap Spl.cells) := own_up hor (Chg.of_below (fun _ => False) ((Go.below_drewN (Below.refl _ wr) 1).trans hcb)) (fun _ h => h.elim)
   have hcb' : Below wr.heap.size wr w1 := (Go.below_drewN (Below.refl _ wr) 1).trans hcb
   have hzw : W0.heap.size ≤ w1.heap.size := Nat.le_trans hch.size hcb'.size
   clear hcb
   try simp only [Act.put, List.setIfInBounds_toArray, List.set_cons_zero, List.set_cons_succ]
   refine wpAnyH_take (i := 4) (v := ?_) rfl (by kernel_rfl) (by kernel_rfl) (by kernel_rfl) (fun _ _ _ h => h) (Or.inl ⟨by rfl, ?_⟩) (by assumption) ?_
   rotate_left
   ·intro w' hSw; first | (go_simp; done) | (go_simp; with_reducible rfl)
   try simp only [Act.put]
   refine wpAnyH_ready (rs := [5]) (by kernel_rfl) (by simp) ?_
   refine AllReadyH.cons rfl (fun K hK => ?_) AllReadyH.nil
   go_simp
   refine hK.out _ _ trivial (fun _ => ?_)
   clear hK K
   try simp only [Act.put, List.setIfInBounds_toArray, List.set_cons_zero, List.set_cons_succ]
   refine wpAnyH_ready (rs := [6]) (by kernel_rfl) (by simp) ?_
   refine AllReadyH.cons rfl (fun K hK => ?_) AllReadyH.nil
   refine step_append_lies _ (by rfl) _ _ _ (by rfl) W0.heap.size 52 ii (.agg #[.slice none 0 0, .int .i64 0]) 2 32 Tryz.underlying36 hii hii0 hii1 hii2 rfl (by decide) (.slice oa L.length oc) L.length (L.flatMap Spl.cells) (by rfl) (hor1.alloc _) ⟨w1.heap.size, 0, none⟩ 1 1 [.slice ca ws.length cc, .int .i64 cost] (by rfl) rfl (by exact cells_new _ _ _) (by simp [Value.oneCell']) (by decide) (by unfold maxLen; omega) (by omega) (by simp; omega) _ rfl ?_
   intro g cap w2 hown1 hgrow hat hlt
   have kb : Blk w1 ob #[.slice oa L.length oc] 36 := hbo1
   have b2 := (show Blk (w1.alloc (.cells #[.slice ca ws.length cc, .int .i64 cost] 52)) ob #[.slice oa L.length oc] 36 from kb.alloc _).grown hgrow (fun e => Blk.own_ne (show Blk (w1.alloc (.cells #[.slice ca ws.length cc, .int .i64 cost] 52)) ob #[.slice oa L.length oc] 36 from kb.alloc _) (hor1.alloc _) (by decide) e.symm)
   have q2 := b2.cell 0
   have qf := b2.frozen 0
   simp only [List.getElem?_toArray, List.getElem?_cons_zero] at q2
   refine hK.out _ _ trivial (fun _ => ?_)
   clear hK K
   try simp only [Act.put, List.setIfInBounds_toArray]
   refine wpAnyH_ready (rs := [7]) (by kernel_rfl) (by simp) ?_
   refine AllReadyH.cons rfl (fun K hK => ?_) AllReadyH.nil
   go_simp
   refine hK.out _ _ trivial (fun _ => ?_)
   clear hK K
   try simp only [Act.put, List.setIfInBounds_toArray, List.set_cons_zero, List.set_cons_succ]
   refine wpAnyH_done (by kernel_rfl) ?_ _
   clear d1 cob fob q2 qf
   go_wp2_with fail
   refine bodyPost_ret (results_none rfl _ _ _) rfl ?_
   exact sp_done (by unfold maxLen; have := Hlen.out; omega) hob hch hcb' hbo hvr hor hor1 hcr hown1 hgrow
  ·go_simp
   go_at_call 39
   refine (HCl.out 1).mono ?_
   rintro e w1 ⟨cv, rfl, hcr, hcn, hcb⟩
   rw [List.take_length] at hcr
   obtain ⟨ca, cc, rfl, hcl, hca⟩ := RowAt.of_own hcr
   go_simp
   refine hK.out _ _ trivial (fun _ => ?_)
   clear hK K
   have hbo1 : Boxed w1 ob 36 (.slice oa L.length oc) := (hcb.block ob (by simpa using hob2)).trans hbo
   have hor1 : w1.ownsRow W0.heap.size 52 2 (.slice oa L.length oc) L.length (L.flatMap Spl.cells) := own_up hor (Chg.of_below (fun _ => False) ((Go.below_drewN (Below.refl _ wr) 1).trans hcb)) (fun _ h => h.elim)
   have hcb' : Below wr.heap.size wr w1 := (Go.below_drewN (Below.refl _ wr) 1).trans hcb
   have hzw : W0.heap.size ≤ w1.heap.size := Nat.le_trans hch.size hcb'.size
   clear hcb
   have co1 : w1.cell? ⟨ob, 0, none⟩ = some _ := hbo1.cell
   have co2 : (w1.alloc (.cells #[.slice ca ws.length cc, .int .i64 cost] 52)).cell? ⟨ob, 0, none⟩ = some _ := ((show Blk w1 ob #[.slice oa L.length oc] 36 from hbo1).alloc _).cell 0
   try simp only [Act.put, List.setIfInBounds_toArray, List.set_cons_zero, List.set_cons_succ]
   refine wpAnyH_take (i := 4) (v := ?_) rfl (by kernel_rfl) (by kernel_rfl) (by kernel_rfl) (fun _ _ _ h => h) (Or.inl ⟨by rfl, ?_⟩) (by assumption) ?_
   rotate_left
   ·intro w' hSw; first | (go_simp; done) | (go_simp; with_reducible rfl)
   try simp only [Act.put]
   refine wpAnyH_ready (rs := [0, 5]) (by kernel_rfl) (by simp) ?_
   refine AllReadyH.cons rfl (fun K hK => ?_) (AllReadyH.cons rfl (fun K hK => ?_) AllReadyH.nil)
   ·go_simp
    refine hK.out _ _ trivial (fun _ => ?_)
    clear hK K
    try simp only [Act.put, List.setIfInBounds_toArray, List.set_cons_zero, List.set_cons_succ]
    refine wpAnyH_ready (rs := [5]) (by kernel_rfl) (by simp) ?_
    refine AllReadyH.cons rfl (fun K hK => ?_) AllReadyH.nil
    go_simp
    refine hK.out _ _ trivial (fun _ => ?_)
    clear hK K
    try simp only [Act.put, List.setIfInBounds_toArray, List.set_cons_zero, List.set_cons_succ]
    refine wpAnyH_ready (rs := [6]) (by kernel_rfl) (by simp) ?_
    refine AllReadyH.cons rfl (fun K hK => ?_) AllReadyH.nil
    refine step_append_lies _ (by rfl) _ _ _ (by rfl) W0.heap.size 52 ii (.agg #[.slice none 0 0, .int .i64 0]) 2 32 Tryz.underlying36 hii hii0 hii1 hii2 rfl (by decide) (.slice oa L.length oc) L.length (L.flatMap Spl.cells) (by rfl) (hor1.alloc _) ⟨w1.heap.size, 0, none⟩ 1 1 [.slice ca ws.length cc, .int .i64 cost] (by rfl) rfl (by exact cells_new _ _ _) (by simp [Value.oneCell']) (by decide) (by unfold maxLen; omega) (by omega) (by simp; omega) _ rfl ?_
    intro g cap w2 hown1 hgrow hat hlt
    have kb : Blk w1 ob #[.slice oa L.length oc] 36 := hbo1
    have b2 := (show Blk (w1.alloc (.cells #[.slice ca ws.length cc, .int .i64 cost] 52)) ob #[.slice oa L.length oc] 36 from kb.alloc _).grown hgrow (fun e => Blk.own_ne (show Blk (w1.alloc (.cells #[.slice ca ws.length cc, .int .i64 cost] 52)) ob #[.slice oa L.length oc] 36 from kb.alloc _) (hor1.alloc _) (by decide) e.symm)
    have q2 := b2.cell 0
    have qf := b2.frozen 0
    simp only [List.getElem?_toArray, List.getElem?_cons_zero] at q2
    refine hK.out _ _ trivial (fun _ => ?_)
    clear hK K
    try simp only [Act.put, List.setIfInBounds_toArray]
    refine wpAnyH_ready (rs := [7]) (by kernel_rfl) (by simp) ?_
    refine AllReadyH.cons rfl (fun K hK => ?_) AllReadyH.nil
    go_simp
    refine hK.out _ _ trivial (fun _ => ?_)
    clear hK K
    try simp only [Act.put, List.setIfInBounds_toArray, List.set_cons_zero, List.set_cons_succ]
    refine wpAnyH_done (by kernel_rfl) ?_ _
    clear d1 cob fob q2 qf
    go_wp2_with fail
    refine bodyPost_ret (results_none rfl _ _ _) rfl ?_
    exact sp_done (by unfold maxLen; have := Hlen.out; omega) hob hch hcb' hbo hvr hor hor1 hcr hown1 hgrow
   ·go_simp
    refine hK.out _ _ trivial (fun _ => ?_)
    clear hK K
    try simp only [Act.put, List.setIfInBounds_toArray, List.set_cons_zero, List.set_cons_succ]
    refine wpAnyH_ready (rs := [0]) (by kernel_rfl) (by simp) ?_
    refine AllReadyH.cons rfl (fun K hK => ?_) AllReadyH.nil
    go_simp
    refine hK.out _ _ trivial (fun _ => ?_)
    clear hK K
    try simp only [Act.put, List.setIfInBounds_toArray, List.set_cons_zero, List.set_cons_succ]
    refine wpAnyH_ready (rs := [6]) (by kernel_rfl) (by simp) ?_
    refine AllReadyH.cons rfl (fun K hK => ?_) AllReadyH.nil
    refine step_append_lies _ (by rfl) _ _ _ (by rfl) W0.heap.size 52 ii (.agg #[.slice none 0 0, .int .i64 0]) 2 32 Tryz.underlying36 hii hii0 hii1 hii2 rfl (by decide) (.slice oa L.length oc) L.length (L.flatMap Spl.cells) (by rfl) (hor1.alloc _) ⟨w1.heap.size, 0, none⟩ 1 1 [.slice ca ws.length cc, .int .i64 cost] (by rfl) rfl (by exact cells_new _ _ _) (by simp [Value.oneCell']) (by decide) (by unfold maxLen; omega) (by omega) (by simp; omega) _ rfl ?_
    intro g cap w2 hown1 hgrow hat hlt
    have kb : Blk w1 ob #[.slice oa L.length oc] 36 := hbo1
    have b2 := (show Blk (w1.alloc (.cells #[.slice ca ws.length cc, .int .i64 cost] 52)) ob #[.slice oa L.length oc] 36 from kb.alloc _).grown hgrow (fun e => Blk.own_ne (show Blk (w1.alloc (.cells #[.slice ca ws.length cc, .int .i64 cost] 52)) ob #[.slice oa L.length oc] 36 from kb.alloc _) (hor1.alloc _) (by decide) e.symm)
    have q2 := b2.cell 0
    have qf := b2.frozen 0
    simp only [List.getElem?_toArray, List.getElem?_cons_zero] at q2
    refine hK.out _ _ trivial (fun _ => ?_)
    clear hK K
    try simp only [Act.put, List.setIfInBounds_toArray]
    refine wpAnyH_ready (rs := [7]) (by kernel_rfl) (by simp) ?_
    refine AllReadyH.cons rfl (fun K hK => ?_) AllReadyH.nil
    go_simp
    refine hK.out _ _ trivial (fun _ => ?_)
    clear hK K
    try simp only [Act.put, List.setIfInBounds_toArray, List.set_cons_zero, List.set_cons_succ]
    refine wpAnyH_done (by kernel_rfl) ?_ _
    clear d1 cob fob q2 qf
    go_wp2_with fail
    refine bodyPost_ret (results_none rfl _ _ _) rfl ?_
    exact sp_done (by unfold maxLen; have := Hlen.out; omega) hob hch hcb' hbo hvr hor hor1 hcr hown1 hgrow
 | succ k ih =>
  intro ws cost v L ov wp hk hc0 hc1 hL hch hbo hor hvr
  have hnW : ws.length < W.length := by omega
  obtain ⟨w, hw⟩ : ∃ w, W[ws.length]? = some w := ⟨_, List.getElem?_eq_getElem hnW⟩
  obtain ⟨C, hC⟩ : ∃ C, Cs[ws.length]? = some C := ⟨_, List.getElem?_eq_getElem (by omega)⟩
  obtain ⟨x0, hwr, x1, x2, x3, hlk⟩ := HX'.out wp hch
  obtain ⟨hCr, hlk1, hlk2⟩ := hlk _ w C hw hC
  obtain ⟨wg, wo, rfl, hwg, hwc⟩ := hwr.strs (by omega)
  have y0 := hwc ws.length hnW
  rw [show W[ws.length] = w from (List.getElem?_eq_some_iff.1 hw).2] at y0
  have hdrop : Cs.drop ws.length = C :: Cs.drop (ws.length + 1) := by
   rw [List.drop_eq_getElem_cons (by omega)]
   rw [(List.getElem?_eq_some_iff.1 hC).2]
  have hex : exts (Cs.drop ws.length) ws cost = C.flatMap (fun p => exts (Cs.drop (ws.length + 1)) (ws ++ [p.1]) (cost + p.2)) := by rw [hdrop]; rfl
  rw [hex]
  obtain ⟨va, vc, rfl, hvl, hva⟩ := RowAt.of_own hvr
  have d1 : ((ws.length : Int) == (W.length : Int)) = false := by simp; omega
  have HD := Lib.hid hdrop
  have Hk := Lib.hid hk
  have Hw := Lib.hid hw
  have HC := Lib.hid hC
  clear hvl hva hwc hex hdrop hk hw hC hlk hlk2
  go_enter Tryz.func38, Tryz.ntmps38
  go_wp2_with fail
  go_loopw [33] (fun i wx => ∃ (j : Nat) (ovj : Value) (new : List Spl), j ≤ C.length ∧ i = .int .i64 j ∧ Boxed wx ob 36 ovj ∧ wx.ownsRow W0.heap.size 52 2 ovj (L ++ new).length ((L ++ new).flatMap Spl.cells) ∧ wx.ownsRow W0.heap.size 9 1 (.slice va ws.length vc) ws.length (strs ws) ∧
   new.map Spl.key = (C.take j).flatMap (fun p => exts (Cs.drop (ws.length + 1)) (ws ++ [p.1]) (cost + p.2)) ∧ SpNew wp wx new ∧ Chg (fun k => k = ob ∨ some k = (Value.slice va ws.length vc).ownBlock ∨ SpBlk W0.heap.size wp k) wp wx) (fun i _ => C.length - (intOf i).toNat)
  case atStart => exact ⟨0, ov, [], Nat.zero_le _, rfl, hbo, by rw [List.append_nil]; exact hor, hvr, rfl, (fun x hx => absurd hx (by simp)), Chg.refl _ _⟩
  case round =>
   obtain ⟨j, ovj, new, hj, rfl, hboj, horj, hvrj, hnew, hsn, hchj⟩ := hrel
   by_cases hjl : j < C.length
   ·have hchw : Chg (· = ob) W0 wr := by
     refine ⟨hchj.os.trans hch.os, hchj.tape.trans hch.tape, hchj.output.trans hch.output, Nat.le_trans hch.size hchj.size, fun q hq hne => (hchj.block q (Nat.lt_of_lt_of_le hq hch.size) ?_).trans (hch.block q hq hne)⟩
     rintro (e | e | e)
     ·exact hne e
     ·have := (hvr.lt q e.symm).1; omega
     ·have := e.1; omega
    obtain ⟨-, -, -, y2, y3, hlkj⟩ := HX'.out wr hchw
    obtain ⟨hCrj, -, -⟩ := hlkj _ w C Hw.out HC.out
    obtain ⟨cg, co, hRA, -, hcc⟩ := hCrj.strs (by simp; omega)
    obtain ⟨t, ct, ht⟩ : ∃ t ct, C[j] = (t, ct) := ⟨_, _, rfl⟩
    have z0 := hcc j (by simpa using hjl)
    rw [show (C.map (·.1))[j]'(by simpa using hjl) = t by rw [List.getElem_map, ht]] at z0
    have hmem : (t, ct) ∈ C := by rw [← ht]; exact List.getElem_mem hjl
    have hct := hcost C (List.mem_of_getElem? HC.out) _ hmem
    dsimp only at hct
    have Hlk := Lib.hid (fun (wx : World) (h : Chg (· = ob) W0 wx) => (((HX'.out wx h).2.2.2.2.2 _ w C Hw.out HC.out).2.2 (t, ct) hmem))
    have HXX := Lib.hid (And.intro hnew (And.intro hsn (And.intro hboj (And.intro horj (And.intro hvrj hchj)))))
    clear hlkj hCrj hcc hnew hsn hmem
    rw [hRA]
    go_upto_region 6 with (fail)
    have hwrap : IntKind.i64.wrap (cost + ct) = cost + ct := IntWalk.i64_in _ (by omega)
    have hchd : Chg (· = ob) W0 wr.drew := hchw.trans (Chg.of_below _ (Go.below_drewN (Below.refl _ wr) 1))
    refine wp_region_held_drew (S := fun w' => Chg (· = ob) W0 w') (by kernel_rfl) hchd (fun hHeld => ?_)
    refine wpAnyH_take (i := 0) (v := ?_) rfl (by kernel_rfl) (by kernel_rfl) (by kernel_rfl) (fun _ _ _ h => h) (Or.inl ⟨by rfl, ?_⟩) (by assumption) ?_
    rotate_left
    ·intro w' hSw; obtain ⟨-, -, -, s2, s3, -⟩ := HX'.out w' hSw; have s4 := Hlk.out w' hSw; dsimp only at s4; first | (go_simp; done) | (go_simp; with_reducible rfl)
    try simp only [Act.put, List.setIfInBounds_toArray]
    refine wpAnyH_take (i := 1) (v := ?_) rfl (by kernel_rfl) (by kernel_rfl) (by kernel_rfl) (fun _ _ _ h => h) (Or.inl ⟨by rfl, ?_⟩) (by assumption) ?_
    rotate_left
    ·intro w' hSw; obtain ⟨-, -, -, s2, s3, -⟩ := HX'.out w' hSw; have s4 := Hlk.out w' hSw; dsimp only at s4; first | (go_simp; done) | (go_simp; with_reducible rfl)
    try simp only [Act.put]
    refine wpAnyH_take (i := 2) (v := ?_) rfl (by kernel_rfl) (by kernel_rfl) (by kernel_rfl) (fun _ _ _ h => h) (Or.inl ⟨by rfl, ?_⟩) (by assumption) ?_
    rotate_left
    ·intro w' hSw; obtain ⟨-, -, -, s2, s3, -⟩ := HX'.out w' hSw; have s4 := Hlk.out w' hSw; dsimp only at s4; first | (go_simp; done) | (go_simp; with_reducible rfl)
    try simp only [Act.put]
    refine wpAnyH_take (i := 5) (v := ?_) rfl (by kernel_rfl) (by kernel_rfl) (by kernel_rfl) (fun _ _ _ h => h) (Or.inl ⟨by rfl, ?_⟩) (by assumption) ?_
    rotate_left
    ·intro w' hSw; obtain ⟨-, -, -, s2, s3, -⟩ := HX'.out w' hSw; have s4 := Hlk.out w' hSw; dsimp only at s4; first | (go_simp; done) | (go_simp; with_reducible rfl)
    try simp only [Act.put]
    refine wpAnyH_take (i := 6) (v := ?_) rfl (by kernel_rfl) (by kernel_rfl) (by kernel_rfl) (fun _ _ _ h => h) (Or.inl ⟨by rfl, ?_⟩) (by assumption) ?_
    rotate_left
    ·intro w' hSw; obtain ⟨-, -, -, s2, s3, -⟩ := HX'.out w' hSw; have s4 := Hlk.out w' hSw; dsimp only at s4; first | (go_simp; done) | (go_simp; with_reducible rfl)
    try simp only [Act.put]
    refine wpAnyH_take (i := 7) (v := ?_) rfl (by kernel_rfl) (by kernel_rfl) (by kernel_rfl) (fun _ _ _ h => h) (Or.inl ⟨by rfl, ?_⟩) (by assumption) ?_
    rotate_left
    ·intro w' hSw; obtain ⟨-, -, -, s2, s3, -⟩ := HX'.out w' hSw; have s4 := Hlk.out w' hSw; dsimp only at s4; first | (go_simp; done) | (go_simp; with_reducible rfl)
    try simp only [Act.put]
    refine wpAnyH_take (i := 8) (v := ?_) rfl (by kernel_rfl) (by kernel_rfl) (by kernel_rfl) (fun _ _ _ h => h) (Or.inl ⟨by rfl, ?_⟩) (by assumption) ?_
    rotate_left
    ·intro w' hSw; obtain ⟨-, -, -, s2, s3, -⟩ := HX'.out w' hSw; have s4 := Hlk.out w' hSw; dsimp only at s4; first | (go_simp; done) | (go_simp; with_reducible rfl)
    try simp only [Act.put]
    refine wpAnyH_take (i := 9) (v := ?_) rfl (by kernel_rfl) (by kernel_rfl) (by kernel_rfl) (fun _ _ _ h => h) (Or.inl ⟨by rfl, ?_⟩) (by assumption) ?_
    rotate_left
    ·intro w' hSw; obtain ⟨-, -, -, s2, s3, -⟩ := HX'.out w' hSw; have s4 := Hlk.out w' hSw; dsimp only at s4; first | (go_simp; done) | (go_simp; with_reducible rfl)
    try simp only [Act.put]
    refine wpAnyH_take (i := 10) (v := ?_) rfl (by kernel_rfl) (by kernel_rfl) (by kernel_rfl) (fun _ _ _ h => h) (Or.inl ⟨by rfl, ?_⟩) (by assumption) ?_
    rotate_left
    ·intro w' hSw; obtain ⟨-, -, -, s2, s3, -⟩ := HX'.out w' hSw; have s4 := Hlk.out w' hSw; dsimp only at s4; first | (go_simp; done) | (go_simp; with_reducible rfl)
    try simp only [Act.put]
    refine wpAnyH_take (i := 11) (v := ?_) rfl (by kernel_rfl) (by kernel_rfl) (by kernel_rfl) (fun _ _ _ h => h) (Or.inl ⟨by rfl, ?_⟩) (by assumption) ?_
    rotate_left
    ·intro w' hSw; obtain ⟨-, -, -, s2, s3, -⟩ := HX'.out w' hSw; have s4 := Hlk.out w' hSw; dsimp only at s4; first | (go_simp; done) | (go_simp; with_reducible rfl)
    try simp only [Act.put]
    have hca : Chg (· = ob) W0 (wr.alloc (.cells #[.string t] 9)) := hchw.trans (Chg.of_below _ ((Below.refl _ _).alloc (Nat.le_refl _) _))
    refine wpAnyH_ready (rs := [3]) (by kernel_rfl) (by simp) ?_
    refine AllReadyH.cons rfl (fun K hK => ?_) AllReadyH.nil
    go_simp
    refine hK.out _ _ (by first | exact hca | exact hca.trans (Chg.of_below _ (Go.below_drewN (Below.refl _ _) 1)) | exact hchd.trans (Chg.of_below _ ((Below.refl _ _).alloc (Nat.le_refl _) _))) (fun _ => ?_)
    clear hK K
    try simp only [Act.put, List.setIfInBounds_toArray, List.set_cons_zero, List.set_cons_succ]
    refine wpAnyH_ready (rs := [4]) (by kernel_rfl) (by simp) ?_
    refine AllReadyH.cons rfl (fun K hK => ?_) AllReadyH.nil
    refine step_append_keep _ (by rfl) _ _ _ (by rfl) W0.heap.size 9 i0 (.string ByteArray.empty) 1 16 Tryz.underlying29 hi hz0 hz1 hz2 rfl (by decide) (.slice va ws.length vc) ws.length (strs ws) (by rfl) (HXX.out.2.2.2.2.1.alloc _) ⟨wr.heap.size, 0, none⟩ 1 1 [.string t] (by rfl) rfl (by exact cell_one_new _ _ _) (by simp [Value.oneCell']) (by unfold maxLen; omega) (by omega) (by have := hchw.size; simp; omega) ?_
    intro v' w2 hown1 hkeep
    obtain ⟨g, cap, rfl⟩ := ownsRow_succ hown1
    have hgrow : (wr.alloc (.cells #[.string t] 9)).drew.grownBy w2 (Value.slice va ws.length vc).ownBlock := by
     rcases hkeep with ⟨g2, cap2, e1, -, hg⟩ | ⟨-, hg⟩
     ·cases e1; exact hg
     ·exact ⟨hg.os, hg.tape, hg.output, hg.size, fun k hk _ => hg.block k hk (by simp)⟩
    have Hkeep := Lib.hid hkeep
    clear hkeep
    have hcA : Chg (· = ob) W0 (wr.alloc (.cells #[.string t] 9)).drew := hca.trans (Chg.of_below _ (Go.below_drewN (Below.refl _ _) 1))
    have hc2 : Chg (· = ob) W0 w2 := hcA.grown_from hgrow (fun r e => (HXX.out.2.2.2.2.1.lt r e).1)
    have kb : Blk (wr.alloc (.cells #[.string t] 9)).drew ob #[ovj] 36 := (show Blk wr ob #[ovj] 36 from HXX.out.2.2.1).alloc _
    have hb2 : Boxed w2 ob 36 ovj := kb.grown hgrow (fun e => Blk.own_ne (show Blk wr ob #[ovj] 36 from HXX.out.2.2.1) HXX.out.2.2.2.2.1 (by decide) e.symm)
    have ho2 := own_kept_other (show (wr.alloc (.cells #[.string t] 9)).drew.ownsRow W0.heap.size 52 2 ovj (L ++ new).length ((L ++ new).flatMap Spl.cells) from own_drew (HXX.out.2.2.2.1.alloc _)) (own_drew (HXX.out.2.2.2.2.1.alloc _)) (by decide) hgrow
    refine hK.out _ _ hc2 (fun _ => ?_)
    clear hK K
    try simp only [Act.put, List.setIfInBounds_toArray]
    have hwl : (ws ++ [t]).length = ws.length + 1 := by simp
    have hst : strs (ws ++ [t]) = strs ws ++ [.string t] := by simp [strs]
    have hih := ih (ws ++ [t]) (cost + ct) (.slice (some ⟨g, 0, none⟩) (ws.length + 1) cap) (L ++ new) ovj w2 (by rw [hwl]; have := Hk.out; omega) (by omega) (by rw [hwl]; push_cast; omega) (by rw [hwl]; exact room_left hjl HXX.out.1 (by rw [← HD.out]; exact hL)) hc2 hb2 ho2 (by rw [hst, hwl]; exact hown1)
    rw [hwl] at hih
    have HIH := Lib.hid hih
    clear hih hb2 ho2
    refine wpAnyH_ready (rs := [12]) (by kernel_rfl) (by simp) ?_
    refine AllReadyH.cons rfl (fun K hK => ?_) AllReadyH.nil
    go_simp
    refine HIH.out.mono ?_
    rintro e w3 ⟨rfl, ov3, new3, k1, k2, k3, k4, k5, k6⟩
    go_simp
    rw [hwl, hst] at k3
    obtain ⟨r1, r2, r3⟩ := sp_round hob hch hvr HXX.out.2.2.2.2.2 HXX.out.2.2.2.2.1 HXX.out.2.1 Hkeep.out k3 k5 k6
    have hc3 : Chg (· = ob) W0 w3 := by
     refine ⟨r3.os.trans hch.os, r3.tape.trans hch.tape, r3.output.trans hch.output, Nat.le_trans hch.size r3.size, fun q hq hne => (r3.block q (Nat.lt_of_lt_of_le hq hch.size) ?_).trans (hch.block q hq hne)⟩
     rintro (e | e | e)
     ·exact hne e
     ·have := (hvr.lt q e.symm).1; omega
     ·have := e.1; omega
    rw [List.append_assoc] at k2
    have hkey : (new ++ new3).map Spl.key = (C.take (j + 1)).flatMap (fun p => exts (Cs.drop (ws.length + 1)) (ws ++ [p.1]) (cost + p.2)) := by
     rw [List.take_succ_eq_append_getElem hjl, List.flatMap_append, List.map_append, HXX.out.1, k4, ht]
     simp
    have Hj1 := Lib.hid (show j + 1 ≤ C.length from hjl)
    have hC64 := (hpos C (List.mem_of_getElem? HC.out)).2
    have hj64 : j + 1 ≤ 64 := Nat.le_trans hjl hC64
    have Hfin := Lib.hid (And.intro k1 (And.intro k2 (And.intro r1 (And.intro hkey (And.intro r2 r3)))))
    refine hK.out _ _ hc3 (fun _ => ?_)
    clear hK K
    try simp only [Act.put, List.setIfInBounds_toArray, List.set_cons_zero, List.set_cons_succ]
    refine wpAnyH_done (by kernel_rfl) ?_ _
    clear k1 k2 k3 k4 k5 k6 r1 r2 r3 hkey hc3 hc2 hcA hca hchd hgrow hown1
    go_wp2_with fail
    exact ⟨⟨j + 1, ov3, new ++ new3, Hj1.out, by go_num, Hfin.out⟩, by have := Hj1.out; simp [intOf]; omega⟩ -- end
   ·obtain rfl : j = C.length := by omega
    rw [List.take_length] at hnew
    go_wp2_with fail
    refine bodyPost_ret (results_none rfl _ _ _) rfl ?_
    exact ⟨rfl, ovj, new, hboj, horj, hvrj, hnew, hsn, hchj⟩
end Go.Proofs.YthachfkcgdfdfaaGreatDoor
/- What a round of words.Spell's loop over the changes leaves. -/
namespace Go.Proofs.YthachfkcgdfdfaaGreatDoor
open Go.RowKit Go.Shelf Classical

theorem KeepM.trans {b Bt : Nat} {X Y Z : World} (h : KeepM b Bt X Y) (k : KeepM b Bt Y Z) : KeepM b Bt X Z :=
 ⟨k.1.trans h.1, k.2.1.trans h.2.1, fun i o hi ho => k.2.2 i o (h.2.2 i o hi ho) ho⟩
theorem keepM_below {b Bt : Nat} {X Y : World} (h : Below X.heap.size X Y) (hb : b < X.heap.size) (hB : Bt < X.heap.size) : KeepM b Bt X Y :=
 ⟨h.block _ hb, h.block _ hB, fun _ _ hi _ => (h.block _ (Array.getElem?_eq_some_iff.1 hi).1).trans hi⟩
theorem keepM_put {b Bt B : Nat} (hb : b < B) (hB : Bt < B) (W : World) (l : Nat) (o o' : Obj) (hl : B ≤ l) (h : W.heap[l]? = some o) (hw : o.isWalk = false) : KeepM b Bt W (W.putObj l o') := by
 refine ⟨World.putObj_heap_other (by omega), World.putObj_heap_other (by omega), fun i q hi hq => ?_⟩
 by_cases e : i = l
 ·subst e
  rw [h] at hi
  obtain rfl := Option.some.inj hi
  obtain ⟨s, sn, c0, rfl⟩ := hq
  cases hw
 ·rw [World.putObj_heap_other (fun e' => e e')]; exact hi
theorem TosAt.kept {X Y : World} {base cm : Nat} {l : List (ByteArray × ByteArray)} {es : List (Value × Value)} {row : Option Nat} (h : TosAt X base cm l es) (hg : X.grownBy Y row) (hr : ∀ r, row = some r → r ≠ cm ∧ ∃ o : Obj, X.heap[r]? = some o ∧ o.isCells = false) : TosAt Y base cm l es :=
 ⟨h.isMap.grown hg (fun e => (hr cm e.symm).1 rfl), fun p hp => by
  obtain ⟨k, h1, h2, h3⟩ := h.own p hp
  refine ⟨k, h1, h2, h3.kept hg ?_⟩
  rcases h3.2 with ⟨hv, _⟩ | ⟨g, cap, cur, hv, _, hh, _⟩
  ·exact .inl (by rw [hv]; rfl)
  ·refine .inr (fun e => ?_)
   rw [hv] at e
   obtain ⟨_, o, ho, hc⟩ := hr g e.symm
   rw [hh] at ho
   obtain rfl := Option.some.inj ho
   exact (by cases hc), h.has, h.apart⟩
/-- The end of a round. -/
theorem tos_end {W9 X1 Xa X2 X3 : World} {cm m Bt : Nat} {pre : List (ByteArray × ByteArray)} {es : List (Value × Value)} {p : ByteArray × ByteArray} {es' : List (Value × Value)} {v0 : Value} {n : Nat} {xs : List Value}
  (hT : TosAt X1 W9.heap.size cm pre es) (hown : X1.ownsRow W9.heap.size 9 1 v0 n xs) (hb : Below X1.heap.size X1 Xa) (hgrow : Xa.grownBy X2 v0.ownBlock) (h3 : TosAt X3 W9.heap.size cm (pre ++ [p]) es') (hg2 : X2.grownBy X3 (some cm))
  (hc : Chg (fun k => k = cm) W9 X1) (hcm : cm < W9.heap.size) (hm : m < W9.heap.size) (hB : Bt < W9.heap.size) (hmc : m ≠ cm) (hBc : Bt ≠ cm) :
  KeepsFrom W9.heap.size X1 X3 ∧ KeepM m Bt X1 X3 ∧ (∃ es, TosAt X3 W9.heap.size cm (pre ++ [p]) es) ∧ Chg (fun k => k = cm) W9 X3 := by
 have hC : Chg (fun k => k = cm ∨ some k = v0.ownBlock) X1 X3 := ((Chg.of_below _ hb).grown_in hgrow (fun r e => .inr e.symm)).grown_in hg2 (fun r e => by cases e; exact .inl rfl)
 have hsz := hc.size
 have hrow : ∀ k, some k = v0.ownBlock → W9.heap.size ≤ k ∧ ∃ cur, X1.heap[k]? = some (.cells cur 9 (0, 0)) := fun k e => by
  rcases hown.2 with ⟨rfl, _⟩ | ⟨g, cap, cur, rfl, hg, hh, _⟩
  ·cases e
  ·cases e; exact ⟨hg, _, hh⟩
 obtain ⟨ces, clock, hcb, _⟩ := hT.isMap
 refine ⟨⟨hC.size, fun k o hk ho hno => (hC.block k (Array.getElem?_eq_some_iff.1 ho).1 ?_).trans ho⟩, ⟨hC.block m (by omega) ?_, hC.block Bt (by omega) ?_, fun i o hi ho => (hC.block i (Array.getElem?_eq_some_iff.1 hi).1 ?_).trans hi⟩, ⟨es', h3⟩, ?_⟩
 ·rintro (e | e)
  ·omega
  ·obtain ⟨_, cur, hh⟩ := hrow k e
   rw [hh] at ho
   obtain rfl := Option.some.inj ho
   cases hno
 ·rintro (e | e)
  ·exact hmc e
  ·have := (hrow m e).1; omega
 ·rintro (e | e)
  ·exact hBc e
  ·have := (hrow Bt e).1; omega
 ·obtain ⟨s, sn, c0, rfl⟩ := ho
  rintro (e | e)
  ·subst e
   rw [hcb] at hi; cases hi
  ·obtain ⟨_, cur, hh⟩ := hrow i e
   rw [hh] at hi; cases hi
 ·refine ⟨hC.os.trans hc.os, hC.tape.trans hc.tape, hC.output.trans hc.output, Nat.le_trans hsz hC.size, fun k hk hne => (hC.block k (by omega) ?_).trans (hc.block k hk hne)⟩
  rintro (e | e)
  ·exact hne e
  ·have := (hrow k e).1; omega
def unCh : Value → ByteArray × ByteArray
 | .agg ⟨[.string x, .string y]⟩ => (x, y)
 | _ => (⟨#[]⟩, ⟨#[]⟩)
theorem unCh_map (l : List (ByteArray × ByteArray)) : (l.map chV).map unCh = l := by
 rw [List.map_map]
 exact (List.map_congr_left (g := id) (fun x _ => rfl)).trans (List.map_id _)
theorem perm_chV {ys : List (ByteArray × ByteArray)} {es : List ((ByteArray × ByteArray) × Int)} (h : (ys.map chV).Perm ((costV es).map (·.1))) : ys.Perm (es.map (·.1)) := by
 rw [costV_keys] at h
 have := h.map unCh
 rwa [unCh_map, unCh_map] at this
theorem rowOf_len (es : List ((ByteArray × ByteArray) × Int)) (ys : List (ByteArray × ByteArray)) (x : ByteArray) : (rowOf es ys x).length = (tosOf ys x).length := by
 rw [← rowOf_fst es ys x, List.length_map]
theorem tosOf_len (ys : List (ByteArray × ByteArray)) (x : ByteArray) : (tosOf ys x).length ≤ ys.length := by
 unfold tosOf; rw [List.length_map]; exact List.length_filter_le _ _
/-- A row of choices at every world in which its map lies as it lay. -/
theorem TosAt.row {X : World} {base cm : Nat} {ys : List (ByteArray × ByteArray)} {esT : List (Value × Value)} (h : TosAt X base cm ys esT) (x : ByteArray) :
  ∃ (a : Option Addr) (c : Nat), (∀ wr : World, wr.heap[cm]? = X.heap[cm]? → (Instr.lookup 71 (.map (some cm)) (.string x) false).run Tryz.prog wr = .ok (.slice a (tosOf ys x).length c) wr) ∧
   X.ownsRow base 9 1 (.slice a (tosOf ys x).length c) (tosOf ys x).length (strs (tosOf ys x)) := by
 obtain ⟨v0, hv0, hown, -⟩ := h.look x
 obtain ⟨a, c, rfl, -, -⟩ := RowAt.of_own hown
 exact ⟨a, c, fun wr hwr => h.look_at hwr hv0, hown⟩
theorem nodup_inj {α β : Type} {g : α → β} : ∀ {l : List α}, (l.map g).Nodup → ∀ x ∈ l, ∀ y ∈ l, g x = g y → x = y
 | [], _, x, hx, _, _, _ => by cases hx
 | a :: l, h, x, hx, y, hy, e => by
  rw [List.map_cons, List.nodup_cons] at h
  rcases List.mem_cons.1 hx with q | q <;> rcases List.mem_cons.1 hy with r | r
  ·rw [q, r]
  ·exact absurd (List.mem_map.2 ⟨y, r, by rw [← e, q]⟩) h.1
  ·exact absurd (List.mem_map.2 ⟨x, q, by rw [e, r]⟩) h.1
  ·exact nodup_inj h.2 x q y r e
theorem nodup_of_fst {l : List (List ByteArray × Int)} (h : (l.map (·.1)).Nodup) : l.Nodup := (List.pairwise_map.1 h).imp (fun hne e => hne (by rw [e]))
theorem choice2 {P : Nat → Option Addr → Nat → Prop} (h : ∀ k, ∃ a c, P k a c) : ∃ (A : Nat → Option Addr) (C : Nat → Nat), ∀ k, P k (A k) (C k) := by
 obtain ⟨A, hA⟩ := Classical.axiomOfChoice h
 obtain ⟨C, hC⟩ := Classical.axiomOfChoice hA
 exact ⟨A, C, hC⟩
theorem own_far {w : World} {base base' n n' : Nat} {a : Option Addr} {c g c' : Nat} {xs xs' : List Value} (h : w.ownsRow base 9 1 (.slice a n c) n xs) (h' : w.ownsRow base' 52 2 (.slice (some ⟨g, 0, none⟩) n' c') n' xs') : ∀ p, a = some p → p.block ≠ g := by
 rintro p rfl e
 rcases own_ne h h' (by decide) with q | q
 ·cases q
 ·exact q (by simp [Value.ownBlock, e])
theorem prod_step {Cs : List (List (ByteArray × Int))} {k : Nat} {C : List (ByteArray × Int)} (h : Cs[k]? = some C) : prodN (Cs.take (k + 1)) = prodN (Cs.take k) * C.length := by
 rw [List.take_add_one, h, Option.toList_some, prodN_snoc]
end Go.Proofs.YthachfkcgdfdfaaGreatDoor
