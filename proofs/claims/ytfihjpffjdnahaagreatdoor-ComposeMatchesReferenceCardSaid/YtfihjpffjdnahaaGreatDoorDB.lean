/- D1 · D2 -/
import Derived.Test.YtfihjpffjdnahaaGreatDoorT1
import Derived.Test.YtfihjpffjdnahaaGreatDoorGX
import Derived.Deep.RegionHeld3
import Derived.Deep.AppendLies
import Derived.Deep.CutBlock
import Derived.Deep.DeepCutAuto
import Derived.Test.YtfihjpffjdnahaaGreatDoorPB
import Derived.Test.YtfihjpffjdnahaaGreatDoorGE
/- Walk: compose.leaving: a map of the arcs of a machine by the states from which they lead. -/
namespace Go.Proofs.YtfihjpffjdnahaaGreatDoor
open Go.RowKit Classical

def lvs (l : List Arc) (k : Int) : List Arc := l.filter (fun a => decide (a.frm = k))
theorem zero_arcs (w : World) : (zeroValue 23).run Tryz.prog w = .ok (.slice none 0 0) w := by kernel_rfl

/-- A map of the arcs by the states from which they lead. -/
structure LvAt (w : World) (base bm : Nat) (l : List Arc) (es : List (Value × Value)) : Prop where
 isMap : MapIs w bm OkInt es
 own : ∀ p ∈ es, ∃ k : Int, p.1 = .int .i64 k ∧ lvs l k ≠ [] ∧ w.ownsRow base 40 4 p.2 (lvs l k).length (flat (lvs l k))
 has : ∀ k : Int, lvs l k ≠ [] → ∃ v, (Value.int .i64 k, v) ∈ es
 apart : ∀ p ∈ es, ∀ q ∈ es, p.1 ≠ q.1 → p.2.ownBlock ≠ q.2.ownBlock
theorem LvAt.chg {S : Nat → Prop} {w w' : World} {base bm : Nat} {l : List Arc} {es : List (Value × Value)} (h : LvAt w base bm l es) (hc : Chg S w w') (hm : ¬ S bm) (hr : ∀ p ∈ es, ∀ g, p.2.ownBlock = some g → ¬ S g) : LvAt w' base bm l es :=
 ⟨h.isMap.chg hc hm, fun p hp => by
  obtain ⟨k, h1, h2, h3⟩ := h.own p hp
  exact ⟨k, h1, h2, own_chg h3 hc (fun g e1 => hr p hp g e1)⟩, h.has, h.apart⟩
theorem LvAt.look {w : World} {base bm : Nat} {l : List Arc} {es : List (Value × Value)} (h : LvAt w base bm l es) (k : Int) :
  ∃ v0, ((lvs l k = [] → v0 = .slice none 0 0) ∧ (lvs l k ≠ [] → (Value.int .i64 k, v0) ∈ es)) ∧ w.ownsRow base 40 4 v0 (lvs l k).length (flat (lvs l k)) ∧
   (Instr.lookup 53 (.map (some bm)) (.int .i64 k) false).run Tryz.prog w = .ok v0 w := by
 by_cases hk : lvs l k = []
 ·have := MapIs.look_none h.isMap keyInt Tryz.underlying53 (zero_arcs w) (key := .int .i64 k) (okInt k) (fun p hp he => by
   obtain ⟨k', h1, h2, _⟩ := h.own p hp
   rw [h1] at he; injection he with _ he; subst he; exact h2 hk) false
  rw [hk]
  exact ⟨_, ⟨fun _ => rfl, fun h => absurd rfl h⟩, World.ownsRow_nil _ _ _ _, by simpa using this⟩
 ·obtain ⟨v, hv⟩ := h.has k hk
  obtain ⟨k', h1, _, h3⟩ := h.own _ hv
  injection h1 with _ h1; subst h1
  have := MapIs.look_some h.isMap keyInt Tryz.underlying53 hv false
  exact ⟨v, ⟨fun h => absurd h hk, fun _ => hv⟩, h3, by simpa using this⟩
theorem LvAt.look_at {w w' : World} {base bm : Nat} {l : List Arc} {es : List (Value × Value)} (h : LvAt w base bm l es) (hb : w'.heap[bm]? = w.heap[bm]?) {k : Int} {v0 : Value} (hv : (lvs l k = [] → v0 = .slice none 0 0) ∧ (lvs l k ≠ [] → (Value.int .i64 k, v0) ∈ es)) :
  (Instr.lookup 53 (.map (some bm)) (.int .i64 k) false).run Tryz.prog w' = .ok v0 w' := by
 have hm := h.isMap.block hb
 by_cases hk : lvs l k = []
 ·have := MapIs.look_none hm keyInt Tryz.underlying53 (zero_arcs w') (key := .int .i64 k) (okInt k) (fun p hp he => by
   obtain ⟨k', h1, h2, _⟩ := h.own p hp
   rw [h1] at he; injection he with _ he; subst he; exact h2 hk) false
  rw [hv.1 hk]
  simpa using this
 ·have := MapIs.look_some hm keyInt Tryz.underlying53 (hv.2 hk) false
  simpa using this

theorem lvs_snoc (l : List Arc) (p : Arc) (k : Int) : lvs (l ++ [p]) k = lvs l k ++ (if p.frm = k then [p] else []) := by
 unfold lvs
 rw [List.filter_append]
 congr 1
 by_cases h : p.frm = k <;> simp [h]
theorem flat_one (p : Arc) : flat [p] = p.cells := by simp [flat]
theorem LvAt.below {w w' : World} {base bm : Nat} {l : List Arc} {es : List (Value × Value)} (h : LvAt w base bm l es) (hb : Below w.heap.size w w') : LvAt w' base bm l es :=
 ⟨h.isMap.below hb h.isMap.lt, fun p hp => by
  obtain ⟨k, h1, h2, h3⟩ := h.own p hp
  exact ⟨k, h1, h2, own_below h3 hb⟩, h.has, h.apart⟩
theorem LvAt.step {W W1 : World} {base bm : Nat} {l : List Arc} {es : List (Value × Value)} (h : LvAt W base bm l es) (p : Arc) {v0 : Value} (hv0 : (lvs l p.frm = [] → v0 = .slice none 0 0) ∧ (lvs l p.frm ≠ [] → (Value.int .i64 p.frm, v0) ∈ es)) {g cap : Nat}
  (hown1 : W1.ownsRow base 40 4 (.slice (some ⟨g, 0, none⟩) ((lvs l p.frm).length + 1) cap) ((lvs l p.frm).length + 1) (flat (lvs l p.frm) ++ p.cells)) (hgrow : W.grownBy W1 v0.ownBlock) (hat : v0.ownBlock = some g ∨ g = W.heap.size) :
  ∃ W2 es', (Instr.mapUpdate 53 (.map (some bm)) (.int .i64 p.frm) (.slice (some ⟨g, 0, none⟩) ((lvs l p.frm).length + 1) cap)).run Tryz.prog W1 = .ok () W2 ∧ LvAt W2 base bm (l ++ [p]) es' ∧ W1.grownBy W2 (some bm) ∧ W2.heap.size = W1.heap.size := by
 have hnew : lvs (l ++ [p]) p.frm = lvs l p.frm ++ [p] := by rw [lvs_snoc, if_pos rfl]
 have hold : ∀ k, k ≠ p.frm → lvs (l ++ [p]) k = lvs l k := fun k hk => by rw [lvs_snoc, if_neg (fun e => hk e.symm), List.append_nil]
 have hgb : (Value.slice (some ⟨g, 0, none⟩) ((lvs l p.frm).length + 1) cap).ownBlock = some g := rfl
 have hsmall : ∀ q ∈ es, ∀ b, q.2.ownBlock = some b → b < W.heap.size := fun q hq b hb => by
  obtain ⟨k, _, _, h3⟩ := h.own q hq
  exact (h3.lt b hb).2
 by_cases hk : lvs l p.frm = []
 ·have e0 := hv0.1 hk
  subst e0
  have hm1 : MapIs W1 bm OkInt es := h.isMap.grown hgrow (by intro e; cases e)
  have hno : ∀ q ∈ es, q.1 ≠ Value.int .i64 p.frm := fun q hq he => by
   obtain ⟨k, h1, h2, _⟩ := h.own q hq
   rw [h1] at he; injection he with _ he; subst he; exact h2 hk
  obtain ⟨W2, hrun, hm2, hg2, hsz⟩ := hm1.put_new keyInt Tryz.underlying53 (key := .int .i64 p.frm) (okInt _) hno (.slice (some ⟨g, 0, none⟩) ((lvs l p.frm).length + 1) cap)
  refine ⟨W2, _, hrun, ⟨hm2, fun q hq => ?_, fun k hkk => ?_, fun q hq q' hq' hne => ?_⟩, hg2, hsz⟩
  ·rcases List.mem_append.1 hq with hq | hq
   ·obtain ⟨k, h1, h2, h3⟩ := h.own q hq
    have hkp : k ≠ p.frm := fun e => h2 (by rw [e]; exact hk)
    refine ⟨k, h1, by rw [hold k hkp]; exact h2, ?_⟩
    rw [hold k hkp]
    have h4 := h3.kept hgrow (.inr (by
     intro e
     rcases h3.2 with ⟨hv, hn0⟩ | ⟨g', _, _, hv, _⟩
     ·exact h2 (List.length_eq_zero_iff.1 hn0)
     ·rw [hv] at e; cases e))
    exact h4.kept hg2 (.inr (own_ne_mapB h4 hm1))
   ·obtain rfl : q = (Value.int .i64 p.frm, Value.slice (some ⟨g, 0, none⟩) ((lvs l p.frm).length + 1) cap) := by simpa using hq
    refine ⟨p.frm, rfl, by rw [hnew]; simp, ?_⟩
    rw [hnew, flat_append, flat_one, List.length_append]
    exact hown1.kept hg2 (.inr (own_ne_mapB hown1 hm1))
  ·by_cases e : k = p.frm
   ·subst e; exact ⟨_, List.mem_append.2 (.inr (List.mem_singleton.2 rfl))⟩
   ·rw [hold k e] at hkk
    obtain ⟨v, hv⟩ := h.has k hkk
    exact ⟨v, List.mem_append.2 (.inl hv)⟩
  ·have hg : g = W.heap.size := by
    rcases hat with e | e
    ·cases e
    ·exact e
   rcases List.mem_append.1 hq with hq | hq <;> rcases List.mem_append.1 hq' with hq' | hq'
   ·exact h.apart q hq q' hq' hne
   ·obtain rfl : q' = (Value.int .i64 p.frm, Value.slice (some ⟨g, 0, none⟩) ((lvs l p.frm).length + 1) cap) := by simpa using hq'
    intro e
    have := hsmall q hq g (e.trans hgb)
    omega
   ·obtain rfl : q = (Value.int .i64 p.frm, Value.slice (some ⟨g, 0, none⟩) ((lvs l p.frm).length + 1) cap) := by simpa using hq
    intro e
    have := hsmall q' hq' g (e.symm.trans hgb)
    omega
   ·obtain rfl : q = (Value.int .i64 p.frm, Value.slice (some ⟨g, 0, none⟩) ((lvs l p.frm).length + 1) cap) := by simpa using hq
    obtain rfl : q' = (Value.int .i64 p.frm, Value.slice (some ⟨g, 0, none⟩) ((lvs l p.frm).length + 1) cap) := by simpa using hq'
    exact absurd rfl hne
 ·have hin := hv0.2 hk
  obtain ⟨k0, e0, _, hown0⟩ := h.own _ hin
  injection e0 with _ e0; subst e0
  simp only at hown0
  have hm1 : MapIs W1 bm OkInt es := h.isMap.grown hgrow (fun e => own_ne_mapB hown0 h.isMap e.symm)
  obtain ⟨W2, hrun, hm2, hg2, hsz⟩ := hm1.put_old keyInt Tryz.underlying53 hin (.slice (some ⟨g, 0, none⟩) ((lvs l p.frm).length + 1) cap)
  have hmem : ∀ q ∈ es.map (fun q => if q.1 = Value.int .i64 p.frm then (Value.int .i64 p.frm, Value.slice (some ⟨g, 0, none⟩) ((lvs l p.frm).length + 1) cap) else q), (q ∈ es ∧ q.1 ≠ Value.int .i64 p.frm) ∨ q = (Value.int .i64 p.frm, Value.slice (some ⟨g, 0, none⟩) ((lvs l p.frm).length + 1) cap) := fun q hq => by
   obtain ⟨r, hr, rfl⟩ := List.mem_map.1 hq
   by_cases e : r.1 = Value.int .i64 p.frm
   ·rw [if_pos e]; exact .inr rfl
   ·rw [if_neg e]; exact .inl ⟨hr, e⟩
  have hap : ∀ q ∈ es, q.1 ≠ Value.int .i64 p.frm → q.2.ownBlock ≠ some g := fun q hq hne e => by
   rcases hat with e1 | e1
   ·exact h.apart q hq _ hin hne (by rw [e]; exact e1.symm)
   ·have := hsmall q hq g e
    omega
  refine ⟨W2, _, hrun, ⟨hm2, fun q hq => ?_, fun k hkk => ?_, fun q hq q' hq' hne => ?_⟩, hg2, hsz⟩
  ·rcases hmem q hq with ⟨hq, hqn⟩ | rfl
   ·obtain ⟨k, h1, h2, h3⟩ := h.own q hq
    have hkp : k ≠ p.frm := fun e => hqn (by rw [h1, e])
    refine ⟨k, h1, by rw [hold k hkp]; exact h2, ?_⟩
    rw [hold k hkp]
    have h4 := h3.kept hgrow (.inr (h.apart q hq _ hin hqn))
    exact h4.kept hg2 (.inr (own_ne_mapB h4 hm1))
   ·refine ⟨p.frm, rfl, by rw [hnew]; simp, ?_⟩
    rw [hnew, flat_append, flat_one, List.length_append]
    exact hown1.kept hg2 (.inr (own_ne_mapB hown1 hm1))
  ·by_cases e : k = p.frm
   ·subst e
    exact ⟨_, List.mem_map.2 ⟨_, hin, by rw [if_pos rfl]⟩⟩
   ·rw [hold k e] at hkk
    obtain ⟨v, hv⟩ := h.has k hkk
    exact ⟨v, List.mem_map.2 ⟨_, hv, by rw [if_neg (fun e' => e (by injection e'))]⟩⟩
  ·rcases hmem q hq with ⟨hq, hqn⟩ | rfl <;> rcases hmem q' hq' with ⟨hq', hqn'⟩ | rfl
   ·exact h.apart q hq q' hq' hne
   ·exact hap q hq hqn
   ·exact fun e => hap q' hq' hqn' e.symm
   ·exact absurd rfl hne

/-- What compose.leaving hands back. -/
def LeavePost (l : List Arc) (w : World) (e : Ending) (w' : World) : Prop :=
 ∃ bm es, e = .returned (.map (some bm)) ∧ LvAt w' w.heap.size bm l es ∧ w.heap.size ≤ bm ∧ Below w.heap.size w w'

set_option maxRecDepth 100000 in
set_option maxHeartbeats 4000000 in
theorem leaving_any (M : Mach) (v : Value) (w : World) (h : MachAt w w.heap.size v M) (hl : M.arcs.length ≤ 20000) :
  Calls Tryz.prog 21 #[v] w (LeavePost M.arcs w) := by
 obtain ⟨fa, fc, aa, ac, rfl, hfl, hal, hf, ha⟩ := h
 have hmm := @run_makeMap Tryz.prog
 have Hrow := Lib.hid ha
 clear hf ha
 obtain ⟨i0, hi, hz0, hz1, hz2⟩ := info_parts info_arc
 go_enter Tryz.func21, Tryz.ntmps21
 go_wp2_with fail
 generalize hW0 : ((w.alloc _).alloc _) = W0
 obtain ⟨b0, hb0⟩ : ∃ b, w.heap.size = b := ⟨_, rfl⟩
 have k0 : Blk W0 b0 #[.int .i64 M.states, .int .i64 M.start, .slice fa M.final.length fc, .slice aa M.arcs.length ac] 25 := by
  rw [← hW0, ← hb0]; exact (Blk.new _ _ _).alloc _
 have k1 : MapIs W0 (b0 + 1) OkInt [] := by
  rw [← hW0, ← hb0]
  have := MapIs.made (w.alloc (.cells #[.int .i64 M.states, .int .i64 M.start, .slice fa M.final.length fc, .slice aa M.arcs.length ac] 25)) OkInt
  simpa using this
 have hbw : Below w.heap.size w W0 := by
  rw [← hW0]; exact ((Below.refl _ _).alloc (Nat.le_refl _) _).alloc (by simp) _
 have hsz : W0.heap.size = b0 + 2 := by rw [← hW0]; simp [hb0]
 rw [hb0] at hbw
 rw [hb0]
 have Hb0 := Lib.hid hb0
 clear hW0 hmm hb0
 have m3 := k0.cell 3
 simp only [List.getElem?_toArray, List.getElem?_cons_zero, List.getElem?_cons_succ] at m3
 have HK := Lib.hid (And.intro k1 (And.intro hbw hsz))
 clear k0 k1 hbw hsz
 go_wp2_with fail
 go_loopw [10] (fun i wr => ∃ (k : Nat) (es : List (Value × Value)), k ≤ M.arcs.length ∧ i = .int .i64 k ∧ LvAt wr b0 (b0 + 1) (M.arcs.take k) es ∧ Below b0 w wr) (fun i _ => M.arcs.length - (intOf i).toNat)
 case atStart => exact ⟨0, [], Nat.zero_le _, rfl, ⟨HK.out.1, fun p hp => by simp at hp, fun k hk => absurd rfl hk, fun p hp => by simp at hp⟩, HK.out.2.1⟩
 case round =>
  obtain ⟨k, es, hk, rfl, hnx, hbr⟩ := hrel
  have hb0' := Hb0.out
  have hszr := hbr.size
  have HB := Lib.hid hnx
  clear m3
  by_cases hka : k < M.arcs.length
  ·obtain ⟨b, off, rfl, hbl, hcl⟩ := Hrow.out.arcs (by omega)
   obtain ⟨c0, c1, c2, c3⟩ := hcl k hka
   have x0 := (hbr.cell (p := ⟨b, off + k * 4, none⟩) (by simp; omega)).trans c0
   have x1 := (hbr.cell (p := ⟨b, off + k * 4 + 1, none⟩) (by simp; omega)).trans c1
   have x2 := (hbr.cell (p := ⟨b, off + k * 4 + 2, none⟩) (by simp; omega)).trans c2
   have x3 := (hbr.cell (p := ⟨b, off + k * 4 + 3, none⟩) (by simp; omega)).trans c3
   clear hcl c0 c1 c2 c3
   obtain ⟨p, hp⟩ : ∃ p, p = M.arcs[k] := ⟨_, rfl⟩
   rw [← hp] at x0 x1 x2 x3
   have Hp := Lib.hid hp
   clear hp
   go_upto_region 5 with (fail)
   obtain ⟨W8, hW8⟩ : ∃ W8 : World, W8 = wr.alloc (.cells #[.int .i64 p.frm, .int .i64 p.inp, .int .i64 p.out, .int .i64 p.to] 40) := ⟨_, rfl⟩
   rw [← hW8]
   have hb8 : Below wr.heap.size wr W8 := by rw [hW8]; exact (Below.refl _ _).alloc (Nat.le_refl _) _
   have hp8 : Blk W8 wr.heap.size #[.int .i64 p.frm, .int .i64 p.inp, .int .i64 p.out, .int .i64 p.to] 40 := by rw [hW8]; exact Blk.new _ _ _
   have hnx8 := HB.out.below hb8
   have p0 : W8.cell? ⟨wr.heap.size, 0, none⟩ = some (.int .i64 p.frm) := hp8.cell 0
   have p1 : W8.cell? ⟨wr.heap.size, 1, none⟩ = some (.int .i64 p.inp) := hp8.cell 1
   have p2 : W8.cell? ⟨wr.heap.size, 2, none⟩ = some (.int .i64 p.out) := hp8.cell 2
   have p3 : W8.cell? ⟨wr.heap.size, 3, none⟩ = some (.int .i64 p.to) := hp8.cell 3
   obtain ⟨v0, hv0, hown0, hlk0⟩ := hnx8.look p.frm
   obtain ⟨va, vc, rfl, -, -⟩ := RowAt.of_own hown0
   have hlkd : (Instr.lookup 53 (.map (some (b0 + 1))) (.int .i64 p.frm) false).run Tryz.prog W8.drew = .ok (.slice va (lvs (M.arcs.take k) p.frm).length vc) W8.drew := hnx8.look_at (w' := W8.drew) rfl hv0
   have hll : (lvs (M.arcs.take k) p.frm).length ≤ 20000 := by
    unfold lvs
    refine Nat.le_trans (List.length_filter_le _ _) ?_
    rw [List.length_take]; omega
   have hsz8 := hb8.size
   have hb9 : Below W8.heap.size W8 (W8.alloc (.cells #[.int .i64 p.frm, .int .i64 p.inp, .int .i64 p.out, .int .i64 p.to] 40)).drew := ((Below.refl _ _).alloc (Nat.le_refl _) _).drew
   have hnx9 := hnx8.below hb9
   have a0 := (hb9.cell (p := ⟨wr.heap.size, 0, none⟩) hp8.lt).trans p0
   have a1 := (hb9.cell (p := ⟨wr.heap.size, 1, none⟩) hp8.lt).trans p1
   have a2 := (hb9.cell (p := ⟨wr.heap.size, 2, none⟩) hp8.lt).trans p2
   have a3 := (hb9.cell (p := ⟨wr.heap.size, 3, none⟩) hp8.lt).trans p3
   have a4 := hnx9.look_at rfl hv0
   have hown9 := own_below hown0 hb9
   have hp9 := hp8.below hb9 hp8.lt
   have hnb : ∀ g', (Value.slice va (lvs (M.arcs.take k) p.frm).length vc).ownBlock = some g' → g' ≠ wr.heap.size := fun g' hg' e => by
    obtain ⟨k', h1, h2⟩ : ∃ q ∈ es, q.2.ownBlock = some g' := by
     by_cases h0 : lvs (M.arcs.take k) p.frm = []
     ·rw [hv0.1 h0] at hg'; cases hg'
     ·exact ⟨_, hv0.2 h0, hg'⟩
    obtain ⟨_, _, _, h5⟩ := HB.out.own _ h1
    have := (h5.lt g' h2).2
    omega
   have H9 := Lib.hid (And.intro hnx9 (And.intro hv0 (And.intro hown9 (And.intro hp9 (And.intro hnb (hb8.trans (hb9.mono hb8.size)))))))
   clear hW8 hp8 hnx8 hb8 hv0 hown0 hb9 hnx9 hown9 hp9 hnb
   go_region_held3 (fun w' => w'.cell? ⟨wr.heap.size, 0, none⟩ = some (.int .i64 p.frm) ∧ w'.cell? ⟨wr.heap.size, 1, none⟩ = some (.int .i64 p.inp) ∧ w'.cell? ⟨wr.heap.size, 2, none⟩ = some (.int .i64 p.out) ∧ w'.cell? ⟨wr.heap.size, 3, none⟩ = some (.int .i64 p.to))
    (first | exact ⟨p0, p1, p2, p3⟩ | exact ⟨a0, a1, a2, a3⟩ | exact ⟨q0, q1, q2, q3⟩ | exact ⟨r0, r1, r2, r3⟩ | go_keep)
    (first | (refine step_append_lies _ (by rfl) _ _ _ (by rfl) b0 40 i0 (.agg #[.int .i64 0, .int .i64 0, .int .i64 0, .int .i64 0]) 4 32 Tryz.underlying23 hi hz0 hz1 hz2 rfl (by decide) (.slice va (lvs (M.arcs.take k) p.frm).length vc) (lvs (M.arcs.take k) p.frm).length (flat (lvs (M.arcs.take k) p.frm)) (by rfl) H9.out.2.2.1 ⟨W8.heap.size, 0, none⟩ 1 1 p.cells (by rfl) rfl (by exact cells_new _ _ _) (by simp [Value.oneCell', Arc.cells]) (by decide) (by unfold maxLen; omega) (by omega) (by simp; omega) _ rfl ?_; intro g cap w1 hown1 hgrow hat hlt; obtain ⟨w2, es2, hput, hnx2, hg2, hs2⟩ := H9.out.1.step p H9.out.2.1 hown1 hgrow hat; have g2 := H9.out.2.2.2.1.grown hgrow (fun e => H9.out.2.2.2.2.1 _ e.symm rfl); have q0 := g2.cell 0; have q1 := g2.cell 1; have q2 := g2.cell 2; have q3 := g2.cell 3; have hm1 := H9.out.1.isMap.grown hgrow (fun e => own_ne_mapB H9.out.2.2.1 H9.out.1.isMap e.symm); have j2 := g2.grown hg2 (fun e => g2.ne_mapB hm1 (by injection e)); have r0 := j2.cell 0; have r1 := j2.cell 1; have r2 := j2.cell 2; have r3 := j2.cell 3))
   all_goals (
    have htk : M.arcs.take (k + 1) = M.arcs.take k ++ [p] := by rw [List.take_add_one, List.getElem?_eq_getElem hka, ← Hp.out]; rfl
    have hz9 := H9.out.2.2.2.2.2.size
    have hz1' := hgrow.size
    have hb9' : Below b0 w _ := hbr.trans (H9.out.2.2.2.2.2.mono (by omega))
    have hbF : Below b0 w w2 := (hb9'.grown hgrow (Nat.le_trans (by omega) hz9) (fun j hj => (H9.out.2.2.1.lt j hj).1)).grown hg2 (Nat.le_trans (Nat.le_trans (by omega) hz9) hz1') (fun j hj => by cases hj; omega)
    have HF := Lib.hid (And.intro htk (And.intro hbF hnx2))
    clear htk hbF hnx2 j2 g2 hput hg2 hgrow hown1 hat
    go_wp2_with fail
    exact ⟨⟨k + 1, es2, by omega, by go_num, by rw [HF.out.1]; exact HF.out.2.2, HF.out.2.1⟩, by simp [intOf]; omega⟩)
  ·obtain rfl : k = M.arcs.length := by omega
   have hnxF := HB.out
   rw [List.take_length] at hnxF
   have HN := Lib.hid hnxF
   clear hnxF hnx
   go_wp2
   go_ret
   rw [← hb0'] at hbr
   exact ⟨b0 + 1, es, rfl, by rw [hb0']; exact HN.out, by omega, hbr⟩
end Go.Proofs.YtfihjpffjdnahaaGreatDoor

/- Walk: the steps of a pair of states, as an iterator (compose.steps). -/
namespace Go.Proofs.YtfihjpffjdnahaaGreatDoor
open Go.RowKit Classical
open Go.Shelf
attribute [local go_sem] Oper.semAt_some
attribute [local go_sem] undef_bool undef_bool'

/-- What lies as it lay: all blocks of cells but those that T names, and two maps. -/
structure KpT (T : World → Nat → Prop) (bm bn : Nat) (W W' : World) : Prop where
 size : W.heap.size ≤ W'.heap.size
 m : W'.heap[bm]? = W.heap[bm]?
 n : W'.heap[bn]? = W.heap[bn]?
 cells : ∀ b cs t, Blk W b cs t → ¬ T W b → Blk W' b cs t
 new : ∀ b, b < W.heap.size → T W' b → T W b
 ok : (∀ b, T W b → b < W.heap.size) → ∀ b, T W' b → b < W'.heap.size
section
variable {T : World → Nat → Prop} {bm bn : Nat} {W W' W'' : World}
theorem KpT.refl : KpT T bm bn W W := ⟨Nat.le_refl _, rfl, rfl, fun _ _ _ h _ => h, fun _ _ h => h, fun h => h⟩
theorem KpT.trans (h : KpT T bm bn W W') (k : KpT T bm bn W' W'') : KpT T bm bn W W'' :=
 ⟨Nat.le_trans h.size k.size, k.m.trans h.m, k.n.trans h.n, fun b cs t hb hT => k.cells b cs t (h.cells b cs t hb hT) (fun hT' => hT (h.new b hb.lt hT')),
  fun b hb hT => h.new b hb (k.new b (Nat.lt_of_lt_of_le hb h.size) hT), fun ho => k.ok (h.ok ho)⟩
/-- T looks at blocks that lie below B. -/
def Looks (T : World → Nat → Prop) (B : Nat) : Prop := ∀ W W' : World, B ≤ W.heap.size → Below W.heap.size W W' → ∀ b, T W' b → T W b
theorem KpT.below {B : Nat} (hT : Looks T B) (hB : B ≤ W.heap.size) (hm : bm < W.heap.size) (hn : bn < W.heap.size) (hb : Below W.heap.size W W') : KpT T bm bn W W' :=
 ⟨hb.size, hb.block bm hm, hb.block bn hn, fun _ _ _ h _ => h.below hb h.lt, fun b _ h => hT W W' hB hb b h, fun ho b h => Nat.lt_of_lt_of_le (ho b (hT W W' hB hb b h)) hb.size⟩
end

/-- What the iterator reads: two maps of arcs, a pair. -/
structure StepsAt (T : World → Nat → Prop) (W : World) (Bm Bf Bn bm bn : Nat) (A B : List Arc) (p q : Int) (va vb : Value) : Prop where
 m : ∃ t, Blk W Bm #[.map (some bm)] t
 n : ∃ t, Blk W Bn #[.map (some bn)] t
 f : ∃ t, Blk W Bf #[.int .i64 p, .int .i64 q] t
 nm : ¬ T W Bm
 nn : ¬ T W Bn
 nf : ¬ T W Bf
 lm : ∀ W' : World, W'.heap[bm]? = W.heap[bm]? → (Instr.lookup 53 (.map (some bm)) (.int .i64 p) false).run Tryz.prog W' = .ok va W'
 ln : ∀ W' : World, W'.heap[bn]? = W.heap[bn]? → (Instr.lookup 53 (.map (some bn)) (.int .i64 q) false).run Tryz.prog W' = .ok vb W'
 ra : W.ownsRow 0 40 4 va A.length (flat A)
 rb : W.ownsRow 0 40 4 vb B.length (flat B)
 na : ∀ g, va.ownBlock = some g → ¬ T W g
 nb : ∀ g, vb.ownBlock = some g → ¬ T W g
 lt : bm < W.heap.size ∧ bn < W.heap.size
 ok : ∀ b, T W b → b < W.heap.size
theorem own_cells {w w' : World} {base : Nat} {e : TypeId} {size n : Nat} {v : Value} {xs : List Value} (h : w.ownsRow base e size v n xs) (hk : ∀ g cs t, v.ownBlock = some g → Blk w g cs t → Blk w' g cs t) : w'.ownsRow base e size v n xs := by
 obtain ⟨h1, h2 | ⟨g, cap, cur, rfl, hg, hh, h3⟩⟩ := h
 ·exact ⟨h1, .inl h2⟩
 ·exact ⟨h1, .inr ⟨g, cap, cur, rfl, hg, hk g cur e rfl hh, h3⟩⟩
theorem StepsAt.keep {T : World → Nat → Prop} {W W' : World} {Bm Bf Bn bm bn : Nat} {A B : List Arc} {p q : Int} {va vb : Value} (h : StepsAt T W Bm Bf Bn bm bn A B p q va vb) (k : KpT T bm bn W W') : StepsAt T W' Bm Bf Bn bm bn A B p q va vb := by
 obtain ⟨⟨t1, m⟩, ⟨t2, n⟩, ⟨t3, f⟩, nm, nn, nf, lm, ln, ra, rb, na, nb, lt, ok⟩ := h
 exact ⟨⟨t1, k.cells _ _ _ m nm⟩, ⟨t2, k.cells _ _ _ n nn⟩, ⟨t3, k.cells _ _ _ f nf⟩, fun h => nm (k.new _ m.lt h), fun h => nn (k.new _ n.lt h), fun h => nf (k.new _ f.lt h),
  fun W'' hw => lm W'' (hw.trans k.m), fun W'' hw => ln W'' (hw.trans k.n), own_cells ra (fun g cs t e hb => k.cells _ _ _ hb (na g e)), own_cells rb (fun g cs t e hb => k.cells _ _ _ hb (nb g e)),
  fun g e h => na g e (k.new g (ra.lt g e).2 h), fun g e h => nb g e (k.new g (rb.lt g e).2 h), ⟨Nat.lt_of_lt_of_le lt.1 k.size, Nat.lt_of_lt_of_le lt.2 k.size⟩, k.ok ok⟩

/-- The steps of a pair by the arcs of both states. -/
def sOne (a : Arc) (q : Int) : PStep := ⟨a.inp, 0, (a.to, q)⟩
def sTwo (a b : Arc) : PStep := ⟨a.inp, b.out, (a.to, b.to)⟩
noncomputable def sA (B : List Arc) (q : Int) (a : Arc) : List PStep := if a.out = 0 then [sOne a q] else (B.filter (fun b => decide (b.inp = a.out))).map (sTwo a)
noncomputable def sB (B : List Arc) (p : Int) : List PStep := (B.filter (fun b => decide (b.inp = 0))).map (fun b => ⟨0, b.out, (p, b.to)⟩)
theorem stepsL_eq (m n : List Arc) (x : Int × Int) : stepsL m n x = (lvs m x.1).flatMap (sA (lvs n x.2) x.2) ++ sB (lvs n x.2) x.1 := by
 unfold stepsL sA sB lvs
 have e1 : ∀ c : Int, (n.filter (fun a => decide (a.frm = x.2))).filter (fun b => decide (b.inp = c)) = n.filter (fun b => decide (b.frm = x.2 ∧ b.inp = c)) := fun c => by
  rw [List.filter_filter]
  refine List.filter_congr (fun b _ => ?_)
  rw [Bool.eq_iff_iff]
  simp [and_comm]
 rw [e1 0]
 congr 1
 congr 1
 funext a
 rw [e1 a.out]
 rfl
def sargs (s : PStep) : Array Value := #[.agg #[.int .i64 0, .int .i64 s.inp, .int .i64 s.out, .int .i64 0], .agg #[.int .i64 s.dst.1, .int .i64 s.dst.2]]
theorem take_snoc {α β : Type} (A : List α) (k : Nat) (f : α → List β) {x : α} (h : A[k]? = some x) : (A.take (k + 1)).flatMap f = (A.take k).flatMap f ++ f x := by
 rw [List.take_add_one, h, List.flatMap_append]
 simp

set_option maxRecDepth 100000 in
set_option maxHeartbeats 4000000 in
theorem steps1_in (n : Nat) (hn : 1 ≤ n) (y Bm Bf Bn bm bn : Nat) (A B : List Arc) (p q : Int) (va vb : Value) (hA : A.length ≤ 20000) (hB : B.length ≤ 20000) (T : World → Nat → Prop) (D : Nat) (hT : Looks T D)
  (SQ : List PStep) (hSQ : SQ = A.flatMap (sA B q) ++ sB B p)
  (J Jx : List PStep → World → Prop) (Kp : World → World → Prop) (hJ : ∀ p W W', J p W → Below W.heap.size W W' → J p W') (hKp : ∀ W W', Kp W W' → KpT T bm bn W W')
  (hY : ∀ pre s W, J pre W → pre.length < SQ.length → s ∈ SQ → YieldAt Fence.wide (n - 1) Tryz.prog y (sargs s) W fun e W' =>
   (e = .returned (.bool true) ∧ J (pre ++ [s]) W' ∧ Kp W W') ∨ (e = .returned (.bool false) ∧ Jx (pre ++ [s]) W'))
  (W : World) (hI : StepsAt T W Bm Bf Bn bm bn A B p q va vb) (hD : D ≤ W.heap.size) (h0 : J [] W) :
  CallsIn Fence.wide n Tryz.prog 41 #[.func (.yield y) #[] #[], .pointer (some ⟨Bm, 0, none⟩), .pointer (some ⟨Bf, 0, none⟩), .pointer (some ⟨Bn, 0, none⟩)] W fun e W' => (∃ v, e = .returned v) ∧
   ((∃ ys, ys = SQ ∧ J ys W') ∨ (∃ pre, pre <+: SQ ∧ Jx pre W')) := by
 refine callsIn_of_wp Tryz.func41 rfl trivial ?_ rfl
 simp only [Tryz.ntmps41, List.size_toArray, List.length_cons, List.length_nil, Nat.reduceAdd, Nat.reduceSub, Array.replicate_succ, Array.replicate_zero, List.push_toArray, List.append_toArray, List.nil_append, List.cons_append]
 have hY' : ∀ pre s W, J pre W → pre ++ [s] <+: SQ → YieldAt Fence.wide (n - 1) Tryz.prog y #[.agg #[.int .i64 0, .int .i64 s.inp, .int .i64 s.out, .int .i64 0], .agg #[.int .i64 s.dst.1, .int .i64 s.dst.2]] W fun e W' =>
   (e = .returned (.bool true) ∧ J (pre ++ [s]) W' ∧ Kp W W') ∨ (e = .returned (.bool false) ∧ Jx (pre ++ [s]) W') := fun pre s W h1 h2 =>
  hY pre s W h1 (by have := h2.length_le; simp at this; omega) (h2.subset (by simp))
 have HSQ := Lib.hid hSQ
 have hpA : ∀ k, (A.take k).flatMap (sA B q) <+: SQ := fun k => by
  rw [hSQ]
  refine List.IsPrefix.trans ?_ (List.prefix_append _ _)
  conv => rhs; rw [← List.take_append_drop k A, List.flatMap_append]
  exact List.prefix_append _ _
 have HpA := Lib.hid hpA
 clear hSQ hpA hY
 have HI := Lib.hid hI
 have H0 := Lib.hid h0
 obtain ⟨aa, ac, rfl, -, -⟩ := RowAt.of_own hI.ra
 obtain ⟨ba, bc, rfl, -, -⟩ := RowAt.of_own hI.rb
 have m0 : W.cell? ⟨Bm, 0, none⟩ = some (.map (some bm)) := hI.m.elim fun t h => h.cell 0
 have p0 : W.cell? ⟨Bf, 0, none⟩ = some (.int .i64 p) := hI.f.elim fun t h => h.cell 0
 have lk := hI.lm W rfl
 clear hI h0
 gi_wp2
 gi_loopw [16] (fun i wr => ∃ k : Nat, i = .int .i64 k ∧ k ≤ A.length ∧ J ((A.take k).flatMap (sA B q)) wr ∧ KpT T bm bn W wr) (fun i _ => A.length - (intOf i).toNat)
 case atStart => exact ⟨0, rfl, Nat.zero_le _, by simpa using H0.out, KpT.refl⟩
 case round =>
  obtain ⟨k, rfl, hkl, hJs, hkw⟩ := hrel
  have HJs := Lib.hid hJs
  have Hkw := Lib.hid hkw
  have HIr := Lib.hid (HI.out.keep hkw)
  clear hJs hkw m0 p0 lk
  by_cases hk : k < A.length
  ·obtain ⟨_, _, e, -, hrow⟩ := RowAt.of_own HIr.out.ra
   injection e with e1 e2 e3
   subst e1 e3
   obtain ⟨b, off, rfl, hb, hc⟩ := hrow.arcs (by omega)
   obtain ⟨x0, x1, x2, x3⟩ := hc k hk
   obtain ⟨x, hxe⟩ : ∃ x, x = A[k] := ⟨_, rfl⟩
   rw [← hxe] at x0 x1 x2 x3
   have Hxe := Lib.hid (show A[k]? = some x by rw [hxe]; exact List.getElem?_eq_getElem hk)
   have htk := take_snoc A k (sA B q) Hxe.out
   have Htk := Lib.hid htk
   clear hxe hc hrow e2 htk
   refine wpIn_wide.2 ?_
   go_upto_region 3 with (fail)
   refine (wpIn_wide (n := n)).1 ?_
   obtain ⟨W8, hW8⟩ : ∃ W8 : World, W8 = wr.alloc (.cells #[.int .i64 x.frm, .int .i64 x.inp, .int .i64 x.out, .int .i64 x.to] 40) := ⟨_, rfl⟩
   rw [← hW8]
   have hb8 : Below wr.heap.size wr W8 := by rw [hW8]; exact (Below.refl _ _).alloc (Nat.le_refl _) _
   have hx8 : Blk W8 wr.heap.size #[.int .i64 x.frm, .int .i64 x.inp, .int .i64 x.out, .int .i64 x.to] 40 := by rw [hW8]; exact Blk.new _ _ _
   have hD8 : D ≤ wr.heap.size := Nat.le_trans hD Hkw.out.size
   have hk8 := KpT.below hT hD8 HIr.out.lt.1 HIr.out.lt.2 hb8
   have hnx : ¬ T W8 wr.heap.size := fun h => absurd (HIr.out.ok _ (hT _ _ hD8 hb8 _ h)) (Nat.lt_irrefl _)
   have hI8 := HIr.out.keep hk8
   have H8 := Lib.hid (And.intro (hJ _ _ _ HJs.out hb8) (And.intro hx8 (And.intro (Hkw.out.trans hk8) (And.intro hnx hI8))))
   have y1 : W8.cell? ⟨wr.heap.size, 1, none⟩ = some (.int .i64 x.inp) := hx8.cell 1
   have y2 : W8.cell? ⟨wr.heap.size, 2, none⟩ = some (.int .i64 x.out) := hx8.cell 2
   have y3 : W8.cell? ⟨wr.heap.size, 3, none⟩ = some (.int .i64 x.to) := hx8.cell 3
   have q1 : W8.cell? ⟨Bf, 1, none⟩ = some (.int .i64 q) := hI8.f.elim fun t h => h.cell 1
   have n0 : W8.cell? ⟨Bn, 0, none⟩ = some (.map (some bn)) := hI8.n.elim fun t h => h.cell 0
   have lk := hI8.ln W8 rfl
   clear hW8 hb8 hx8 hk8 hnx hI8 hD8 x0 x1 x2 x3
   by_cases ho : x.out = 0
   ·have d1 : (x.out == 0) = true := by simpa using ho
    have Ho := Lib.hid ho
    have hpre : (A.take k).flatMap (sA B q) ++ [sOne x q] <+: SQ := by
     have := HpA.out (k + 1)
     rw [Htk.out] at this
     unfold sA at this ⊢
     rwa [if_pos ho] at this
    have Hpre := Lib.hid hpre
    clear ho hpre
    refine wpIn_wide.2 ?_
    go_upto_region 4 with (fail)
    refine (wpIn_wide (n := n)).1 ?_
    obtain ⟨fn, tmps, assign, body, hy, hR⟩ := hY' _ (sOne x q) W8 H8.out.1 Hpre.out
    simp only [sOne] at hy hR
    gi_wp2
    refine hR.mono ?_
    rintro e W3 (⟨rfl, hJ3, hk3⟩ | ⟨rfl, hJx3⟩)
    ·gi_wp2
     go_wp2
     refine ⟨⟨k + 1, by go_num, by omega, ?_, H8.out.2.2.1.trans (hKp _ _ hk3)⟩, by simp [intOf]; omega⟩
     rw [Htk.out]
     unfold sA at hJ3 ⊢
     rwa [if_pos Ho.out]
    ·gi_wp2
     go_wp2
     refine bodyPost_ret (results_none rfl _ _ _) rfl ?_
     exact ⟨⟨_, rfl⟩, .inr ⟨_, Hpre.out, hJx3⟩⟩
   ·have d1 : (x.out == 0) = false := by rw [beq_eq_false_iff_ne]; exact ho
    have Ho := Lib.hid ho
    have hpre : ∀ j, (A.take k).flatMap (sA B q) ++ ((B.take j).filter (fun b => decide (b.inp = x.out))).map (sTwo x) <+: SQ := fun j => by
     refine List.IsPrefix.trans ?_ (HpA.out (k + 1))
     rw [Htk.out, List.prefix_append_right_inj]
     unfold sA
     rw [if_neg ho]
     conv => rhs; rw [← List.take_append_drop j B, List.filter_append, List.map_append]
     exact List.prefix_append _ _
    have Hpre := Lib.hid hpre
    clear ho hpre
    refine wpIn_wide.2 ?_
    go_wp2_with fail
    clear lk n0 q1 y1 y2 y3 d1
    obtain ⟨wo, rfl⟩ : ∃ wo : World, wo = wr := ⟨_, rfl⟩
    go_loopw [39] (fun i wx => ∃ j : Nat, i = .int .i64 j ∧ j ≤ B.length ∧ J ((A.take k).flatMap (sA B q) ++ ((B.take j).filter (fun b => decide (b.inp = x.out))).map (sTwo x)) wx ∧ KpT T bm bn W8 wx) (fun i _ => B.length - (intOf i).toNat)
    case atStart => exact ⟨0, rfl, Nat.zero_le _, by simpa using H8.out.1, KpT.refl⟩
    case round =>
     obtain ⟨j, rfl, hjl, hJj, hkj⟩ := hrel
     have HIj := Lib.hid (H8.out.2.2.2.2.keep hkj)
     have Hj := Lib.hid (And.intro hJj (And.intro hkj (And.intro (hkj.cells _ _ _ H8.out.2.1 H8.out.2.2.2.1) (fun h => H8.out.2.2.2.1 (hkj.new _ H8.out.2.1.lt h)))))
     clear hJj hkj
     by_cases hj : j < B.length
     ·obtain ⟨_, _, e, -, hrow⟩ := RowAt.of_own HIj.out.rb
      injection e with e1 e2 e3
      subst e1 e3
      obtain ⟨b2, off2, rfl, hb2, hc2⟩ := hrow.arcs (by omega)
      obtain ⟨x0, x1, x2, x3⟩ := hc2 j hj
      obtain ⟨z, hze⟩ : ∃ z, z = B[j] := ⟨_, rfl⟩
      rw [← hze] at x0 x1 x2 x3
      have hzj : B[j]? = some z := by rw [hze]; exact List.getElem?_eq_getElem hj
      have htj : (B.take (j + 1)).filter (fun b => decide (b.inp = x.out)) = (B.take j).filter (fun b => decide (b.inp = x.out)) ++ (if z.inp = x.out then [z] else []) := by
       rw [List.take_add_one, hzj, List.filter_append]
       by_cases h : z.inp = x.out <;> simp [h]
      have Htj := Lib.hid htj
      clear hze hc2 hrow e2 htj hzj
      go_upto_region 8 with (fail)
      obtain ⟨W9, hW9⟩ : ∃ W9 : World, W9 = wr.alloc (.cells #[.int .i64 z.frm, .int .i64 z.inp, .int .i64 z.out, .int .i64 z.to] 40) := ⟨_, rfl⟩
      rw [← hW9]
      have hb9 : Below wr.heap.size wr W9 := by rw [hW9]; exact (Below.refl _ _).alloc (Nat.le_refl _) _
      have hz9 : Blk W9 wr.heap.size #[.int .i64 z.frm, .int .i64 z.inp, .int .i64 z.out, .int .i64 z.to] 40 := by rw [hW9]; exact Blk.new _ _ _
      have hx9 := Hj.out.2.2.1.below hb9 Hj.out.2.2.1.lt
      have hk9 : KpT T bm bn W8 W9 := Hj.out.2.1.trans (KpT.below hT (Nat.le_trans hD (Nat.le_trans H8.out.2.2.1.size Hj.out.2.1.size)) HIj.out.lt.1 HIj.out.lt.2 hb9)
      have H9 := Lib.hid (And.intro (hJ _ _ _ Hj.out.1 hb9) hk9)
      have z1 : W9.cell? ⟨wr.heap.size, 1, none⟩ = some (.int .i64 z.inp) := hz9.cell 1
      have z2 : W9.cell? ⟨wr.heap.size, 2, none⟩ = some (.int .i64 z.out) := hz9.cell 2
      have z3 : W9.cell? ⟨wr.heap.size, 3, none⟩ = some (.int .i64 z.to) := hz9.cell 3
      have y1 : W9.cell? ⟨wo.heap.size, 1, none⟩ = some (.int .i64 x.inp) := hx9.cell 1
      have y2 : W9.cell? ⟨wo.heap.size, 2, none⟩ = some (.int .i64 x.out) := hx9.cell 2
      have y3 : W9.cell? ⟨wo.heap.size, 3, none⟩ = some (.int .i64 x.to) := hx9.cell 3
      clear hW9 hb9 hz9 hx9 hk9 x0 x1 x2 x3
      by_cases hm : z.inp = x.out
      ·have d1 : (z.inp == x.out) = true := by simpa using hm
       have htj := Htj.out
       rw [if_pos hm] at htj
       have hp2 := Hpre.out (j + 1)
       rw [htj, List.map_append, ← List.append_assoc] at hp2
       have Hp2 := Lib.hid (And.intro hp2 htj)
       clear hm htj hp2
       refine (wpIn_wide (n := n)).1 ?_
       obtain ⟨fn, tmps, assign, body, hy, hR⟩ := hY' _ (sTwo x z) W9 H9.out.1 Hp2.out.1
       simp only [sTwo] at hy hR
       gi_wp2
       refine hR.mono ?_
       rintro e W3 (⟨rfl, hJ3, hk3⟩ | ⟨rfl, hJx3⟩)
       ·gi_wp2
        go_wp2
        refine ⟨⟨j + 1, by go_num, by omega, ?_, H9.out.2.trans (hKp _ _ hk3)⟩, by simp [intOf]; omega⟩
        rw [Hp2.out.2, List.map_append, ← List.append_assoc]
        exact hJ3
       ·gi_wp2
        go_wp2
        refine bodyPost_ret (results_none rfl _ _ _) rfl ?_
        exact ⟨⟨_, rfl⟩, .inr ⟨_, Hp2.out.1, hJx3⟩⟩
      ·have d1 : (z.inp == x.out) = false := by rw [beq_eq_false_iff_ne]; exact hm
       have htj := Htj.out
       rw [if_neg hm, List.append_nil] at htj
       have Htj2 := Lib.hid htj
       clear hm htj
       go_wp2
       exact ⟨⟨j + 1, by go_num, by omega, by rw [Htj2.out]; exact H9.out.1, H9.out.2⟩, by simp [intOf]; omega⟩
     ·obtain rfl : j = B.length := by omega
      go_wp2
      refine ⟨⟨k + 1, by go_num, by omega, ?_, H8.out.2.2.1.trans Hj.out.2.1⟩, by simp [intOf]; omega⟩
      have := Hj.out.1
      rw [List.take_length] at this
      rw [Htk.out]
      unfold sA at this ⊢
      rwa [if_neg Ho.out]
  ·obtain rfl : k = A.length := by omega
   have hJA := HJs.out
   rw [List.take_length] at hJA
   have HJA := Lib.hid hJA
   have q1 : wr.cell? ⟨Bf, 1, none⟩ = some (.int .i64 q) := HIr.out.f.elim fun t h => h.cell 1
   have n0 : wr.cell? ⟨Bn, 0, none⟩ = some (.map (some bn)) := HIr.out.n.elim fun t h => h.cell 0
   have lk := HIr.out.ln wr rfl
   have hpre : ∀ j, A.flatMap (sA B q) ++ ((B.take j).filter (fun b => decide (b.inp = 0))).map (fun b => (⟨0, b.out, (p, b.to)⟩ : PStep)) <+: SQ := fun j => by
    rw [HSQ.out, List.prefix_append_right_inj]
    unfold sB
    conv => rhs; rw [← List.take_append_drop j B, List.filter_append, List.map_append]
    exact List.prefix_append _ _
   have Hpre := Lib.hid hpre
   clear hJA hpre
   gi_wp2
   refine wpIn_wide.2 ?_
   clear lk n0 q1
   obtain ⟨wo, rfl⟩ : ∃ wo : World, wo = wr := ⟨_, rfl⟩
   go_loopw [70] (fun i wx => ∃ j : Nat, i = .int .i64 j ∧ j ≤ B.length ∧ J (A.flatMap (sA B q) ++ ((B.take j).filter (fun b => decide (b.inp = 0))).map (fun b => (⟨0, b.out, (p, b.to)⟩ : PStep))) wx ∧ KpT T bm bn W wx) (fun i _ => B.length - (intOf i).toNat)
   case atStart => exact ⟨0, rfl, Nat.zero_le _, by simpa using HJA.out, Hkw.out⟩
   case round =>
    obtain ⟨j, rfl, hjl, hJj, hkj⟩ := hrel
    have HIj := Lib.hid (HI.out.keep hkj)
    have Hj := Lib.hid (And.intro hJj hkj)
    clear hJj hkj
    by_cases hj : j < B.length
    ·obtain ⟨_, _, e, -, hrow⟩ := RowAt.of_own HIj.out.rb
     injection e with e1 e2 e3
     subst e1 e3
     obtain ⟨b2, off2, rfl, hb2, hc2⟩ := hrow.arcs (by omega)
     obtain ⟨x0, x1, x2, x3⟩ := hc2 j hj
     obtain ⟨z, hze⟩ : ∃ z, z = B[j] := ⟨_, rfl⟩
     rw [← hze] at x0 x1 x2 x3
     have hzj : B[j]? = some z := by rw [hze]; exact List.getElem?_eq_getElem hj
     have htj : (B.take (j + 1)).filter (fun b => decide (b.inp = 0)) = (B.take j).filter (fun b => decide (b.inp = 0)) ++ (if z.inp = 0 then [z] else []) := by
      rw [List.take_add_one, hzj, List.filter_append]
      by_cases h : z.inp = 0 <;> simp [h]
     have Htj := Lib.hid htj
     clear hze hc2 hrow e2 htj hzj
     go_upto_region 14 with (fail)
     obtain ⟨W9, hW9⟩ : ∃ W9 : World, W9 = wr.alloc (.cells #[.int .i64 z.frm, .int .i64 z.inp, .int .i64 z.out, .int .i64 z.to] 40) := ⟨_, rfl⟩
     rw [← hW9]
     have hb9 : Below wr.heap.size wr W9 := by rw [hW9]; exact (Below.refl _ _).alloc (Nat.le_refl _) _
     have hz9 : Blk W9 wr.heap.size #[.int .i64 z.frm, .int .i64 z.inp, .int .i64 z.out, .int .i64 z.to] 40 := by rw [hW9]; exact Blk.new _ _ _
     have hk9 : KpT T bm bn W W9 := Hj.out.2.trans (KpT.below hT (Nat.le_trans hD Hj.out.2.size) HIj.out.lt.1 HIj.out.lt.2 hb9)
     have H9 := Lib.hid (And.intro (hJ _ _ _ Hj.out.1 hb9) hk9)
     have z1 : W9.cell? ⟨wr.heap.size, 1, none⟩ = some (.int .i64 z.inp) := hz9.cell 1
     have z2 : W9.cell? ⟨wr.heap.size, 2, none⟩ = some (.int .i64 z.out) := hz9.cell 2
     have z3 : W9.cell? ⟨wr.heap.size, 3, none⟩ = some (.int .i64 z.to) := hz9.cell 3
     have p0 : W9.cell? ⟨Bf, 0, none⟩ = some (.int .i64 p) := (HI.out.keep hk9).f.elim fun t h => h.cell 0
     clear hW9 hb9 hz9 hk9 x0 x1 x2 x3
     by_cases hm : z.inp = 0
     ·have d1 : (z.inp == 0) = true := by simpa using hm
      have htj := Htj.out
      rw [if_pos hm] at htj
      have hp2 := Hpre.out (j + 1)
      rw [htj, List.map_append, ← List.append_assoc] at hp2
      have Hp2 := Lib.hid (And.intro hp2 htj)
      clear hm htj hp2
      refine (wpIn_wide (n := n)).1 ?_
      obtain ⟨fn, tmps, assign, body, hy, hR⟩ := hY' _ (⟨0, z.out, (p, z.to)⟩ : PStep) W9 H9.out.1 Hp2.out.1
      simp only at hy hR
      gi_wp2
      refine hR.mono ?_
      rintro e W3 (⟨rfl, hJ3, hk3⟩ | ⟨rfl, hJx3⟩)
      ·gi_wp2
       go_wp2
       refine ⟨⟨j + 1, by go_num, by omega, ?_, H9.out.2.trans (hKp _ _ hk3)⟩, by simp [intOf]; omega⟩
       rw [Hp2.out.2, List.map_append, ← List.append_assoc]
       exact hJ3
      ·gi_wp2
       go_wp2
       refine bodyPost_ret (results_none rfl _ _ _) rfl ?_
       exact ⟨⟨_, rfl⟩, .inr ⟨_, Hp2.out.1, hJx3⟩⟩
     ·have d1 : (z.inp == 0) = false := by rw [beq_eq_false_iff_ne]; exact hm
      have htj := Htj.out
      rw [if_neg hm, List.append_nil] at htj
      have Htj2 := Lib.hid htj
      clear hm htj
      go_wp2
      exact ⟨⟨j + 1, by go_num, by omega, by rw [Htj2.out]; exact H9.out.1, H9.out.2⟩, by simp [intOf]; omega⟩
    ·obtain rfl : j = B.length := by omega
     go_wp2
     go_end0
     refine ⟨⟨_, rfl⟩, .inl ⟨SQ, rfl, ?_⟩⟩
     have := Hj.out.1
     rw [List.take_length] at this
     rw [HSQ.out]
     exact this

/-- The iterator's contract, over the steps that it yields. -/
theorem steps_seq (n : Nat) (hn : 1 ≤ n) (Bm Bf Bn bm bn : Nat) (A B : List Arc) (p q : Int) (va vb : Value) (hA : A.length ≤ 20000) (hB : B.length ≤ 20000) (T : World → Nat → Prop) (D : Nat) (hT : Looks T D)
  (SQ : List PStep) (hSQ : SQ = A.flatMap (sA B q) ++ sB B p) (W : World) (hI : StepsAt T W Bm Bf Bn bm bn A B p q va vb) (hD : D ≤ W.heap.size) :
  SeqStopsK Fence.wide n Tryz.prog 41 #[.pointer (some ⟨Bm, 0, none⟩), .pointer (some ⟨Bf, 0, none⟩), .pointer (some ⟨Bn, 0, none⟩)] (fun x : {x // x ∈ SQ} => sargs x.1)
   (KpT T bm bn) (fun ys => ys.map (·.1) = SQ) (fun _ => True) SQ.length W := by
 intro y J Jx W1 hW hJ hJx hY h0
 refine (steps1_in n hn y Bm Bf Bn bm bn A B p q va vb hA hB T D hT SQ hSQ (fun p W => ∃ q : List {x // x ∈ SQ}, q.map (·.1) = p ∧ J q W) (fun p W => ∃ q : List {x // x ∈ SQ}, q.map (·.1) = p ∧ Jx q W) (KpT T bm bn)
  (fun p X Y h hb => ?_) (fun _ _ h => h) ?_ W1 (hI.keep (KpT.below hT hD hI.lt.1 hI.lt.2 hW)) (Nat.le_trans hD hW.size) ⟨[], rfl, h0⟩).mono ?_
 ·obtain ⟨q, hq, h⟩ := h
  exact ⟨q, hq, hJ q X Y none h (grown_of_below hb none) (by simp)⟩
 ·rintro pre x X ⟨q, rfl, h⟩ hlen hx
  obtain ⟨fn, tmps, assign, body, hy, hR⟩ := hY q ⟨x, hx⟩ X h (by simpa using hlen)
  refine ⟨fn, tmps, assign, body, hy, hR.mono ?_⟩
  rintro e X' (⟨he, hj, hk⟩ | ⟨he, hj⟩)
  ·exact .inl ⟨he, ⟨q ++ [⟨x, hx⟩], by simp, hj⟩, hk⟩
  ·exact .inr ⟨he, ⟨q ++ [⟨x, hx⟩], by simp, hj⟩⟩
 ·rintro e X ⟨hv, (⟨ys, rfl, q, hq, hj⟩ | ⟨pre, _, q, rfl, hj⟩)⟩
  ·exact ⟨hv, .inl ⟨q, hq, hj⟩⟩
  ·exact ⟨hv, .inr ⟨q, trivial, hj⟩⟩

theorem steps_any (bm bn : Nat) (p q : Int) (w : World) :
  Calls Tryz.prog 22 #[.map (some bm), .map (some bn), .agg #[.int .i64 p, .int .i64 q]] w fun e w' =>
   e = .returned (.func (.func 41) #[] #[.pointer (some ⟨w.heap.size, 0, none⟩), .pointer (some ⟨w.heap.size + 2, 0, none⟩), .pointer (some ⟨w.heap.size + 1, 0, none⟩)]) ∧
   w' = ((w.alloc (.cells #[.map (some bm)] 53)).alloc (.cells #[.map (some bn)] 53)).alloc (.cells #[.int .i64 p, .int .i64 q] 50) := by
 go_enter Tryz.func22, Tryz.ntmps22
 go_wp2
 go_ret
 exact ⟨rfl, rfl⟩
end Go.Proofs.YtfihjpffjdnahaaGreatDoor
