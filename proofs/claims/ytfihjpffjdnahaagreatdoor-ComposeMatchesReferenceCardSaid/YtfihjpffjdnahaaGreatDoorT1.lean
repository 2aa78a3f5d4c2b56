/- T1 · T2 -/
import Derived.Test.YtfihjpffjdnahaaGreatDoorGE
import Derived.Test.YtfihjpffjdnahaaGreatDoorT0
import Derived.Deep.RegionHeld3
import Derived.Deep.AppendLies
import Derived.Deep.CutBlock
import Derived.Deep.DeepCutAuto
/- Walk: machine.spread: marks are spread along pairs. -/
namespace Go.Proofs.YtfihjpffjdnahaaGreatDoor
open Go.RowKit Classical

def bools (xs : List Bool) : List Value := xs.map Value.bool
theorem bools_set (xs : List Bool) (i : Nat) (b : Bool) : (bools xs).toArray.setIfInBounds i (.bool b) = (bools (xs.set i b)).toArray := by
 simp [bools, List.map_set]
theorem zero_ints (w : World) : (zeroValue 22).run Tryz.prog w = .ok (.slice none 0 0) w := by kernel_rfl

/-- A map of the states to which pairs lead, by the states from which they lead. -/
structure NextAt (w : World) (base bm : Nat) (l : List (Int × Int)) (es : List (Value × Value)) : Prop where
 isMap : MapIs w bm OkInt es
 own : ∀ p ∈ es, ∃ k : Int, p.1 = .int .i64 k ∧ nexts l k ≠ [] ∧ w.ownsRow base 3 1 p.2 (nexts l k).length (nums (nexts l k))
 has : ∀ k : Int, nexts l k ≠ [] → ∃ v, (Value.int .i64 k, v) ∈ es
 apart : ∀ p ∈ es, ∀ q ∈ es, p.1 ≠ q.1 → p.2.ownBlock ≠ q.2.ownBlock
theorem Blk.ne_mapB {w : World} {b b' : Nat} {cs : Array Value} {t : TypeId} {Ok : Value → Prop} {l : List (Value × Value)} (h : Blk w b cs t) (h' : MapIs w b' Ok l) : b ≠ b' := by
 rintro rfl
 obtain ⟨es, clock, hb, _⟩ := h'
 unfold Blk at h
 rw [h] at hb; cases hb
theorem NextAt.chg {w w' : World} {base bm bs : Nat} {l : List (Int × Int)} {es : List (Value × Value)} (h : NextAt w base bm l es) {cs : Array Value} (hb : Blk w bs cs 4) (hc : Chg (fun k => k = bs) w w') : NextAt w' base bm l es :=
 ⟨h.isMap.chg hc (fun e => hb.ne_mapB h.isMap e.symm), fun p hp => by
  obtain ⟨k, h1, h2, h3⟩ := h.own p hp
  exact ⟨k, h1, h2, own_chg h3 hc (fun g e1 e2 => hb.own_ne h3 (by decide) (by rw [e1, e2]))⟩, h.has, h.apart⟩
theorem NextAt.look {w : World} {base bm : Nat} {l : List (Int × Int)} {es : List (Value × Value)} (h : NextAt w base bm l es) (k : Int) :
  ∃ v0, ((nexts l k = [] → v0 = .slice none 0 0) ∧ (nexts l k ≠ [] → (Value.int .i64 k, v0) ∈ es)) ∧ w.ownsRow base 3 1 v0 (nexts l k).length (nums (nexts l k)) ∧
   (Instr.lookup 107 (.map (some bm)) (.int .i64 k) false).run Tryz.prog w = .ok v0 w := by
 by_cases hk : nexts l k = []
 ·have := MapIs.look_none h.isMap keyInt Tryz.underlying107 (zero_ints w) (key := .int .i64 k) (okInt k) (fun p hp he => by
   obtain ⟨k', h1, h2, _⟩ := h.own p hp
   rw [h1] at he; injection he with _ he; subst he; exact h2 hk) false
  rw [hk]
  exact ⟨_, ⟨fun _ => rfl, fun h => absurd rfl h⟩, World.ownsRow_nil _ _ _ _, by simpa using this⟩
 ·obtain ⟨v, hv⟩ := h.has k hk
  obtain ⟨k', h1, _, h3⟩ := h.own _ hv
  injection h1 with _ h1; subst h1
  have := MapIs.look_some h.isMap keyInt Tryz.underlying107 hv false
  exact ⟨v, ⟨fun h => absurd h hk, fun _ => hv⟩, h3, by simpa using this⟩
theorem NextAt.look_at {w w' : World} {base bm : Nat} {l : List (Int × Int)} {es : List (Value × Value)} (h : NextAt w base bm l es) (hb : w'.heap[bm]? = w.heap[bm]?) {k : Int} {v0 : Value} (hv : (nexts l k = [] → v0 = .slice none 0 0) ∧ (nexts l k ≠ [] → (Value.int .i64 k, v0) ∈ es)) :
  (Instr.lookup 107 (.map (some bm)) (.int .i64 k) false).run Tryz.prog w' = .ok v0 w' := by
 have hm := h.isMap.block hb
 by_cases hk : nexts l k = []
 ·have := MapIs.look_none hm keyInt Tryz.underlying107 (zero_ints w') (key := .int .i64 k) (okInt k) (fun p hp he => by
   obtain ⟨k', h1, h2, _⟩ := h.own p hp
   rw [h1] at he; injection he with _ he; subst he; exact h2 hk) false
  rw [hv.1 hk]
  simpa using this
 ·have := MapIs.look_some hm keyInt Tryz.underlying107 (hv.2 hk) false
  simpa using this

def SpreadPost (l : List (Int × Int)) (xs : List Bool) (s bs : Nat) (w : World) (e : Ending) (w' : World) : Prop :=
 e = .returned (.tuple #[]) ∧ ∃ ys, Spr l xs s (nexts l s) ys ∧ Blk w' bs (bools ys).toArray 4 ∧ Chg (fun k => k = bs) w w'

set_option maxRecDepth 100000 in
set_option maxHeartbeats 4000000 in
theorem spread1_any (l : List (Int × Int)) (n : Nat) (hl : ∀ p ∈ l, (0 ≤ p.1 ∧ p.1 < n) ∧ (0 ≤ p.2 ∧ p.2 < n)) (hlen : l.length ≤ 20000) (Bn Bx Bv bs bm base : Nat) (hne : Bn ≠ bs ∧ Bx ≠ bs ∧ Bv ≠ bs) (es : List (Value × Value)) : ∀ (f : Nat) (s : Nat) (xs : List Bool) (w : World),
  xs.count false = f → xs.length = n → s < n →
  Blk w bs (bools xs).toArray 4 → Blk w Bx #[.slice (some ⟨bs, 0, none⟩) n n] 85 → Blk w Bn #[.map (some bm)] 107 →
  (∃ T, Blk w Bv #[.func (.func 70) #[] #[.pointer (some ⟨Bn, 0, none⟩), .pointer (some ⟨Bx, 0, none⟩), .pointer (some ⟨Bv, 0, none⟩)]] T) →
  NextAt w base bm l es →
  Calls Tryz.prog 70 #[.int .i64 s, .pointer (some ⟨Bn, 0, none⟩), .pointer (some ⟨Bx, 0, none⟩), .pointer (some ⟨Bv, 0, none⟩)] w (SpreadPost l xs s bs w) := by
 intro f
 induction f using Nat.strongRecOn with
 | _ f ih =>
  intro s xs w hf hxl hs hbs hbx hbn hbv hnx
  obtain ⟨TV, hbv⟩ := hbv
  obtain ⟨v0, -, hown, hlk⟩ := hnx.look s
  obtain ⟨a, c, rfl, -, hrow⟩ := RowAt.of_own hown
  have n0 := hbn.cell 0
  simp only [List.getElem?_toArray, List.getElem?_cons_zero] at n0
  have hll : (nexts l s).length ≤ 20000 := by
   unfold nexts; rw [List.length_map]; exact Nat.le_trans (List.length_filter_le _ _) hlen
  have HH := Lib.hid (And.intro hbs (And.intro hbx (And.intro hbn (And.intro hbv (And.intro hnx (And.intro hrow hown))))))
  have HL := Lib.hid (And.intro hf hxl)
  clear hbs hbx hbn hbv hnx hrow hown hf hxl
  go_enter Tryz.func70, Tryz.ntmps70
  go_wp2_with fail
  clear hlk n0
  go_loopw [11] (fun i wr => ∃ (k : Nat) (ys : List Bool), k ≤ (nexts l s).length ∧ i = .int .i64 k ∧ Spr l xs s ((nexts l s).take k) ys ∧ Blk wr bs (bools ys).toArray 4 ∧ Chg (fun k => k = bs) w wr) (fun i _ => (nexts l s).length - (intOf i).toNat)
  case atStart => exact ⟨0, xs, Nat.zero_le _, rfl, Spr.start l xs s, HH.out.1, Chg.refl _ _⟩
  case round =>
   obtain ⟨k, ys, hk, rfl, hsp, hb, hc⟩ := hrel
   have HR := Lib.hid (And.intro hsp (And.intro hb hc))
   by_cases hka : k < (nexts l s).length
   ·obtain ⟨t, ht⟩ : ∃ t : Nat, (nexts l s)[k] = t := by
     have := (hl _ (mem_nexts.1 (List.getElem_mem hka))).2
     exact ⟨((nexts l s)[k]).toNat, by simp only at this; omega⟩
    have htn : t < n := by
     have := (hl _ (mem_nexts.1 (List.getElem_mem hka))).2
     simp only [ht] at this; omega
    have hyl : ys.length = n := by rw [hsp.len]; exact HL.out.2
    have htk : (nexts l s).take (k + 1) = (nexts l s).take k ++ [(t : Int)] := by rw [List.take_add_one, List.getElem?_eq_getElem hka, ht]; rfl
    have hpr : Pr l s t := mem_nexts.1 (by rw [← ht]; exact List.getElem_mem hka)
    obtain ⟨b, off, rfl, hbl, hcl⟩ := HH.out.2.2.2.2.2.1.nums (by omega)
    have hbne : b ≠ bs := fun e => HH.out.1.own_ne HH.out.2.2.2.2.2.2 (by decide) (by rw [e]; rfl)
    have x0 := (heap_cell (hc.block b hbl hbne) (off + k)).trans (hcl k hka)
    rw [ht] at x0
    have xb := (HH.out.2.1.chg hc hne.2.1).cell 0
    have tc := hb.cell t
    have tf := hb.frozen t
    have etc : (bools ys).toArray[t]? = some (.bool ys[t]) := by simp [bools, hyl, htn]
    rw [etc] at tc
    simp only [List.getElem?_toArray, List.getElem?_cons_zero] at xb
    have Ht := Lib.hid (And.intro htk (And.intro hpr hyl))
    clear hcl etc htk hpr hsp hb
    cases hyt : ys[t] with
    | true =>
     rw [hyt] at tc
     have hmk := Lib.hid (show Mk ys t from by unfold Mk; rw [List.getElem?_eq_getElem (by omega), hyt])
     clear hyt
     go_wp2_with fail
     exact ⟨⟨k + 1, ys, by omega, by go_num, by rw [Ht.out.1]; exact HR.out.1.old (by simpa using hmk.out), HR.out.2.1, HR.out.2.2⟩, by simp [intOf]; omega⟩
    | false =>
     rw [hyt] at tc
     have hyf := Lib.hid (show ys[t]? = some false from by rw [List.getElem?_eq_getElem (by omega), hyt])
     clear hyt
     obtain ⟨W3, hW3⟩ : ∃ W3 : World, W3 = wr.setCell ⟨bs, t, none⟩ (.bool true) := ⟨_, rfl⟩
     have k1 : Blk W3 bs (bools (ys.set t true)).toArray 4 := by rw [hW3, ← bools_set]; exact HR.out.2.1.set_ t _
     have k2 : Chg (fun k => k = bs) w W3 := by rw [hW3]; exact HR.out.2.2.trans (Chg.setCell (S := fun k => k = bs) (p := ⟨bs, t, none⟩) _ (.inl rfl) _)
     have vc := (HH.out.2.2.2.1.chg k2 hne.2.2).cell 0
     simp only [List.getElem?_toArray, List.getElem?_cons_zero] at vc
     have hlt : (ys.set t true).count false < f := by
      have h1 := count_mark hyf.out
      have h2 := count_false HR.out.1.len HR.out.1.up
      have h3 := HL.out.1
      omega
     have HQ := Lib.hid (ih _ hlt t (ys.set t true) W3 rfl (by rw [List.length_set]; exact Ht.out.2.2) htn k1 (HH.out.2.1.chg k2 hne.2.1) (HH.out.2.2.1.chg k2 hne.1) ⟨TV, HH.out.2.2.2.1.chg k2 hne.2.2⟩ (HH.out.2.2.2.2.1.chg HH.out.1 k2))
     have HW3 := Lib.hid hW3
     have H3 := Lib.hid k2
     clear hW3 k1 k2 hlt
     go_upto_region 5 with (fail)
     rw [← HW3.out]
     go_wp2_with (go_at_call 70; refine HQ.out.mono ?_; rintro e w4 ⟨rfl, zs, hz1, hz2, hz3⟩)
     exact ⟨⟨k + 1, zs, by omega, by go_num, by rw [Ht.out.1]; exact HR.out.1.next (by rw [Ht.out.2.2]; exact htn) Ht.out.2.1 hz1, hz2, H3.out.trans hz3⟩, by simp [intOf]; omega⟩
   ·obtain rfl : k = (nexts l s).length := by omega
    have h1 := HR.out.1
    rw [List.take_length] at h1
    have H1 := Lib.hid h1
    clear h1 hsp
    go_wp2
    (try simp only [Exit.inBlock, Exit.then]); refine bodyPost_ret (results_none rfl _ _ _) rfl ?_
    exact ⟨rfl, ys, H1.out, HR.out.2.1, HR.out.2.2⟩

theorem nexts_snoc (l : List (Int × Int)) (p : Int × Int) (k : Int) : nexts (l ++ [p]) k = nexts l k ++ (if p.1 = k then [p.2] else []) := by
 unfold nexts
 rw [List.filter_append, List.map_append]
 congr 1
 by_cases h : p.1 = k <;> simp [h]
theorem own_ne_mapB {w : World} {base : Nat} {e : TypeId} {size n : Nat} {v : Value} {xs : List Value} (h : w.ownsRow base e size v n xs) {b' : Nat} {Ok : Value → Prop} {l : List (Value × Value)} (h' : MapIs w b' Ok l) : v.ownBlock ≠ some b' := by
 obtain ⟨es, clock, hb, _⟩ := h'
 rcases h.2 with ⟨rfl, _⟩ | ⟨g, cap, cur, rfl, _, hh, _⟩
 ·intro e; cases e
 ·intro e
  have e1 : g = b' := by injection e
  subst e1
  rw [hh] at hb; cases hb
theorem NextAt.below {w w' : World} {base bm : Nat} {l : List (Int × Int)} {es : List (Value × Value)} (h : NextAt w base bm l es) (hb : Below w.heap.size w w') : NextAt w' base bm l es :=
 ⟨h.isMap.below hb h.isMap.lt, fun p hp => by
  obtain ⟨k, h1, h2, h3⟩ := h.own p hp
  exact ⟨k, h1, h2, own_below h3 hb⟩, h.has, h.apart⟩
theorem NextAt.step {W W1 : World} {base bm : Nat} {l : List (Int × Int)} {es : List (Value × Value)} (h : NextAt W base bm l es) (p : Int × Int) {v0 : Value} (hv0 : (nexts l p.1 = [] → v0 = .slice none 0 0) ∧ (nexts l p.1 ≠ [] → (Value.int .i64 p.1, v0) ∈ es)) {g cap : Nat}
  (hown1 : W1.ownsRow base 3 1 (.slice (some ⟨g, 0, none⟩) ((nexts l p.1).length + 1) cap) ((nexts l p.1).length + 1) (nums (nexts l p.1) ++ [.int .i64 p.2])) (hgrow : W.grownBy W1 v0.ownBlock) (hat : v0.ownBlock = some g ∨ g = W.heap.size) :
  ∃ W2 es', (Instr.mapUpdate 107 (.map (some bm)) (.int .i64 p.1) (.slice (some ⟨g, 0, none⟩) ((nexts l p.1).length + 1) cap)).run Tryz.prog W1 = .ok () W2 ∧ NextAt W2 base bm (l ++ [p]) es' ∧ W1.grownBy W2 (some bm) ∧ W2.heap.size = W1.heap.size := by
 have hnew : nexts (l ++ [p]) p.1 = nexts l p.1 ++ [p.2] := by rw [nexts_snoc, if_pos rfl]
 have hold : ∀ k, k ≠ p.1 → nexts (l ++ [p]) k = nexts l k := fun k hk => by rw [nexts_snoc, if_neg (fun e => hk e.symm), List.append_nil]
 have hgb : (Value.slice (some ⟨g, 0, none⟩) ((nexts l p.1).length + 1) cap).ownBlock = some g := rfl
 have hsmall : ∀ q ∈ es, ∀ b, q.2.ownBlock = some b → b < W.heap.size := fun q hq b hb => by
  obtain ⟨k, _, _, h3⟩ := h.own q hq
  exact (h3.lt b hb).2
 by_cases hk : nexts l p.1 = []
 ·have e0 := hv0.1 hk
  subst e0
  have hm1 : MapIs W1 bm OkInt es := h.isMap.grown hgrow (by intro e; cases e)
  have hno : ∀ q ∈ es, q.1 ≠ Value.int .i64 p.1 := fun q hq he => by
   obtain ⟨k, h1, h2, _⟩ := h.own q hq
   rw [h1] at he; injection he with _ he; subst he; exact h2 hk
  obtain ⟨W2, hrun, hm2, hg2, hsz⟩ := hm1.put_new keyInt Tryz.underlying107 (key := .int .i64 p.1) (okInt _) hno (.slice (some ⟨g, 0, none⟩) ((nexts l p.1).length + 1) cap)
  refine ⟨W2, _, hrun, ⟨hm2, fun q hq => ?_, fun k hkk => ?_, fun q hq q' hq' hne => ?_⟩, hg2, hsz⟩
  ·rcases List.mem_append.1 hq with hq | hq
   ·obtain ⟨k, h1, h2, h3⟩ := h.own q hq
    have hkp : k ≠ p.1 := fun e => h2 (by rw [e]; exact hk)
    refine ⟨k, h1, by rw [hold k hkp]; exact h2, ?_⟩
    rw [hold k hkp]
    have h4 := h3.kept hgrow (.inr (by
     intro e
     rcases h3.2 with ⟨hv, hn0⟩ | ⟨g', _, _, hv, _⟩
     ·exact h2 (List.length_eq_zero_iff.1 hn0)
     ·rw [hv] at e; cases e))
    exact h4.kept hg2 (.inr (own_ne_mapB h4 hm1))
   ·obtain rfl : q = (Value.int .i64 p.1, Value.slice (some ⟨g, 0, none⟩) ((nexts l p.1).length + 1) cap) := by simpa using hq
    refine ⟨p.1, rfl, by rw [hnew]; simp, ?_⟩
    rw [hnew, nums_append, List.length_append]
    exact hown1.kept hg2 (.inr (own_ne_mapB hown1 hm1))
  ·by_cases e : k = p.1
   ·subst e; exact ⟨_, List.mem_append.2 (.inr (List.mem_singleton.2 rfl))⟩
   ·rw [hold k e] at hkk
    obtain ⟨v, hv⟩ := h.has k hkk
    exact ⟨v, List.mem_append.2 (.inl hv)⟩
  ·have hg : g = W.heap.size := by
    rcases hat with e | e
    ·cases e
    ·exact e
   rcases List.mem_append.1 hq with hq | hq <;> rcases List.mem_append.1 hq' with hq' | hq'
   ·exact h.apart q hq q' hq' hne
   ·obtain rfl : q' = (Value.int .i64 p.1, Value.slice (some ⟨g, 0, none⟩) ((nexts l p.1).length + 1) cap) := by simpa using hq'
    intro e
    have := hsmall q hq g (e.trans hgb)
    omega
   ·obtain rfl : q = (Value.int .i64 p.1, Value.slice (some ⟨g, 0, none⟩) ((nexts l p.1).length + 1) cap) := by simpa using hq
    intro e
    have := hsmall q' hq' g (e.symm.trans hgb)
    omega
   ·obtain rfl : q = (Value.int .i64 p.1, Value.slice (some ⟨g, 0, none⟩) ((nexts l p.1).length + 1) cap) := by simpa using hq
    obtain rfl : q' = (Value.int .i64 p.1, Value.slice (some ⟨g, 0, none⟩) ((nexts l p.1).length + 1) cap) := by simpa using hq'
    exact absurd rfl hne
 ·have hin := hv0.2 hk
  obtain ⟨k0, e0, _, hown0⟩ := h.own _ hin
  injection e0 with _ e0; subst e0
  simp only at hown0
  have hm1 : MapIs W1 bm OkInt es := h.isMap.grown hgrow (fun e => own_ne_mapB hown0 h.isMap e.symm)
  obtain ⟨W2, hrun, hm2, hg2, hsz⟩ := hm1.put_old keyInt Tryz.underlying107 hin (.slice (some ⟨g, 0, none⟩) ((nexts l p.1).length + 1) cap)
  have hmem : ∀ q ∈ es.map (fun q => if q.1 = Value.int .i64 p.1 then (Value.int .i64 p.1, Value.slice (some ⟨g, 0, none⟩) ((nexts l p.1).length + 1) cap) else q), (q ∈ es ∧ q.1 ≠ Value.int .i64 p.1) ∨ q = (Value.int .i64 p.1, Value.slice (some ⟨g, 0, none⟩) ((nexts l p.1).length + 1) cap) := fun q hq => by
   obtain ⟨r, hr, rfl⟩ := List.mem_map.1 hq
   by_cases e : r.1 = Value.int .i64 p.1
   ·rw [if_pos e]; exact .inr rfl
   ·rw [if_neg e]; exact .inl ⟨hr, e⟩
  have hap : ∀ q ∈ es, q.1 ≠ Value.int .i64 p.1 → q.2.ownBlock ≠ some g := fun q hq hne e => by
   rcases hat with e1 | e1
   ·exact h.apart q hq _ hin hne (by rw [e]; exact e1.symm)
   ·have := hsmall q hq g e
    omega
  refine ⟨W2, _, hrun, ⟨hm2, fun q hq => ?_, fun k hkk => ?_, fun q hq q' hq' hne => ?_⟩, hg2, hsz⟩
  ·rcases hmem q hq with ⟨hq, hqn⟩ | rfl
   ·obtain ⟨k, h1, h2, h3⟩ := h.own q hq
    have hkp : k ≠ p.1 := fun e => hqn (by rw [h1, e])
    refine ⟨k, h1, by rw [hold k hkp]; exact h2, ?_⟩
    rw [hold k hkp]
    have h4 := h3.kept hgrow (.inr (h.apart q hq _ hin hqn))
    exact h4.kept hg2 (.inr (own_ne_mapB h4 hm1))
   ·refine ⟨p.1, rfl, by rw [hnew]; simp, ?_⟩
    rw [hnew, nums_append, List.length_append]
    exact hown1.kept hg2 (.inr (own_ne_mapB hown1 hm1))
  ·by_cases e : k = p.1
   ·subst e
    exact ⟨_, List.mem_map.2 ⟨_, hin, by rw [if_pos rfl]⟩⟩
   ·rw [hold k e] at hkk
    obtain ⟨v, hv⟩ := h.has k hkk
    exact ⟨v, List.mem_map.2 ⟨_, hv, by rw [if_neg (fun e' => e (by injection e'))]⟩⟩
  ·rcases hmem q hq with ⟨hq, hqn⟩ | rfl <;> rcases hmem q' hq' with ⟨hq', hqn'⟩ | rfl
   ·exact h.apart q hq q' hq' hne
   ·exact hap q hq hqn
   ·exact fun e => hap q' hq' hqn' e.symm
   ·exact absurd rfl hne
end Go.Proofs.YtfihjpffjdnahaaGreatDoor

/- Walk: machine.spread, whole. -/
namespace Go.Proofs.YtfihjpffjdnahaaGreatDoor
open Go.RowKit Classical

def pairsV (l : List (Int × Int)) : List Value := l.flatMap (fun p => [Value.int .i64 p.1, .int .i64 p.2])
theorem pairsV_length (l : List (Int × Int)) : (pairsV l).length = l.length * 2 := by
 induction l with
 | nil => rfl
 | cons p l ih => simp only [pairsV, List.flatMap_cons, List.length_append, List.length_cons, List.length_nil] at ih ⊢; omega
theorem pairsV_get : ∀ (l : List (Int × Int)) (i : Nat) (p : Int × Int), l[i]? = some p → (pairsV l)[i * 2]? = some (.int .i64 p.1) ∧ (pairsV l)[i * 2 + 1]? = some (.int .i64 p.2)
 | [], i, p, h => by simp at h
 | q :: l, 0, p, h => by
  obtain rfl : q = p := by simpa using h
  exact ⟨rfl, rfl⟩
 | q :: l, i + 1, p, h => by
  have ih := pairsV_get l i p (by simpa using h)
  rw [show (i + 1) * 2 = i * 2 + 1 + 1 by omega]
  simp only [pairsV, List.flatMap_cons, List.cons_append, List.nil_append, List.getElem?_cons_succ] at ih ⊢
  exact ih
theorem RowAt.pairs {w : World} {B : Nat} {a : Option Addr} {l : List (Int × Int)} (h : RowAt w B a (pairsV l)) (hn : 0 < l.length) :
  ∃ b off, a = some ⟨b, off, none⟩ ∧ b < B ∧ ∀ i (hi : i < l.length), w.cell? ⟨b, off + i * 2, none⟩ = some (.int .i64 l[i].1) ∧ w.cell? ⟨b, off + i * 2 + 1, none⟩ = some (.int .i64 l[i].2) := by
 obtain ⟨b, off, e, hb, hc⟩ := h (by rw [pairsV_length]; omega)
 refine ⟨b, off, e, hb, fun i hi => ?_⟩
 obtain ⟨h0, h1⟩ := pairsV_get l i l[i] (List.getElem?_eq_getElem hi)
 exact ⟨hc _ _ h0, hc _ _ h1⟩

set_option maxRecDepth 100000 in
set_option maxHeartbeats 4000000 in
theorem spread_any (l : List (Int × Int)) (n : Nat) (hn : n ≤ 4000) (hl : ∀ p ∈ l, (0 ≤ p.1 ∧ p.1 < n) ∧ (0 ≤ p.2 ∧ p.2 < n)) (hlen : l.length ≤ 20000) (xs : List Bool) (hxl : xs.length = n) (bs : Nat) (pa : Option Addr) (pc : Nat) (w : World)
  (hbs : Blk w bs (bools xs).toArray 4) (hp : RowAt w w.heap.size pa (pairsV l)) (hpb : 0 < l.length → ∀ p, pa = some p → p.block ≠ bs) :
  Calls Tryz.prog 47 #[.slice (some ⟨bs, 0, none⟩) n n, .slice pa l.length pc] w fun e w' =>
   e = .returned (.tuple #[]) ∧ ∃ ys, Spread l xs ys ∧ Blk w' bs (bools ys).toArray 4 ∧ Chg (fun k => k = bs) w w' := by
 have hmm := @run_makeMap Tryz.prog
 have Hbs := Lib.hid (And.intro hbs (And.intro hp hpb))
 clear hbs hp hpb
 go_enter Tryz.func47, Tryz.ntmps47
 obtain ⟨i0, hi, hz0, hz1, hz2⟩ := info_parts info_int
 go_wp2_with fail
 generalize hW0 : (((w.alloc _).alloc _).alloc _) = W0
 obtain ⟨b0, hb0⟩ : ∃ b, w.heap.size = b := ⟨_, rfl⟩
 have k0 : Blk W0 b0 #[.slice (some ⟨bs, 0, none⟩) n n] 85 := by
  rw [← hW0, ← hb0]; exact ((Blk.new _ _ _).alloc _).alloc _
 have k1 : MapIs W0 (b0 + 1) OkInt [] := by
  rw [← hW0, ← hb0]
  have := (MapIs.made (w.alloc (.cells #[.slice (some ⟨bs, 0, none⟩) n n] 85)) OkInt).alloc (.cells #[.map (some (w.heap.size + 1))] 107)
  simpa using this
 have k2 : Blk W0 (b0 + 2) #[.map (some (b0 + 1))] 107 := by
  rw [← hW0, ← hb0]
  have := Blk.new ((w.alloc (.cells #[.slice (some ⟨bs, 0, none⟩) n n] 85)).alloc (.map #[] 0)) #[.map (some (w.heap.size + 1))] 107
  simpa using this
 have hbw : Below w.heap.size w W0 := by
  rw [← hW0]; exact (((Below.refl _ _).alloc (Nat.le_refl _) _).alloc (by simp) _).alloc (by simp; omega) _
 have hsz : W0.heap.size = b0 + 3 := by rw [← hW0]; simp [hb0]
 rw [hb0] at hbw
 rw [hb0]
 have Hb0 := Lib.hid hb0
 clear hW0 hmm hb0
 have HK := Lib.hid (And.intro k0 (And.intro k1 (And.intro k2 (And.intro hbw hsz))))
 clear k0 k1 k2 hbw hsz
 go_loopw [12] (fun i wr => ∃ (k : Nat) (es : List (Value × Value)), k ≤ l.length ∧ i = .int .i64 k ∧ NextAt wr b0 (b0 + 1) (l.take k) es ∧ Blk wr b0 #[.slice (some ⟨bs, 0, none⟩) n n] 85 ∧ Blk wr (b0 + 2) #[.map (some (b0 + 1))] 107 ∧ Below b0 w wr) (fun i _ => l.length - (intOf i).toNat)
 case atStart => exact ⟨0, [], Nat.zero_le _, rfl, ⟨HK.out.2.1, fun p hp => by simp at hp, fun k hk => absurd rfl hk, fun p hp => by simp at hp⟩, HK.out.1, HK.out.2.2.1, HK.out.2.2.2.1⟩
 case round =>
  obtain ⟨k, es, hk, rfl, hnx, hbx, hbn, hbr⟩ := hrel
  have hb0' := Hb0.out
  have hszr := hbr.size
  have HB := Lib.hid (And.intro hnx (And.intro hbx hbn))
  by_cases hka : k < l.length
  ·obtain ⟨b, off, rfl, hbl, hcl⟩ := Hbs.out.2.1.pairs (by omega)
   obtain ⟨c0, c1⟩ := hcl k hka
   have x0 := (hbr.cell (p := ⟨b, off + k * 2, none⟩) (by simp; omega)).trans c0
   have x1 := (hbr.cell (p := ⟨b, off + k * 2 + 1, none⟩) (by simp; omega)).trans c1
   clear hcl c0 c1
   obtain ⟨p, hp⟩ : ∃ p, p = l[k] := ⟨_, rfl⟩
   rw [← hp] at x0 x1
   have Hp := Lib.hid hp
   clear hp
   go_upto_region 5 with (fail)
   obtain ⟨W8, hW8⟩ : ∃ W8 : World, W8 = wr.alloc (.cells #[.int .i64 p.1, .int .i64 p.2] 65) := ⟨_, rfl⟩
   rw [← hW8]
   have hb8 : Below wr.heap.size wr W8 := by rw [hW8]; exact (Below.refl _ _).alloc (Nat.le_refl _) _
   have hp8 : Blk W8 wr.heap.size #[.int .i64 p.1, .int .i64 p.2] 65 := by rw [hW8]; exact Blk.new _ _ _
   have hnx8 := HB.out.1.below hb8
   have hbn8 := HB.out.2.2.below hb8 HB.out.2.2.lt
   have hbx8 := HB.out.2.1.below hb8 HB.out.2.1.lt
   have n0 : W8.cell? ⟨b0 + 1 + 1, 0, none⟩ = some (.map (some (b0 + 1))) := hbn8.cell 0
   have p0 : W8.cell? ⟨wr.heap.size, 0, none⟩ = some (.int .i64 p.1) := hp8.cell 0
   have p1 : W8.cell? ⟨wr.heap.size, 1, none⟩ = some (.int .i64 p.2) := hp8.cell 1
   obtain ⟨v0, hv0, hown0, hlk0⟩ := hnx8.look p.1
   obtain ⟨va, vc, rfl, -, -⟩ := RowAt.of_own hown0
   have hlkd : (Instr.lookup 107 (.map (some (b0 + 1))) (.int .i64 p.1) false).run Tryz.prog W8.drew = .ok (.slice va (nexts (l.take k) p.1).length vc) W8.drew := hnx8.look_at (w' := W8.drew) rfl hv0
   have hll : (nexts (l.take k) p.1).length ≤ 20000 := by
    unfold nexts; rw [List.length_map]
    refine Nat.le_trans (List.length_filter_le _ _) ?_
    rw [List.length_take]; omega
   have hsz8 := hb8.size
   have hb9 : Below W8.heap.size W8 (W8.alloc (.cells #[.int .i64 p.2] 3)).drew := ((Below.refl _ _).alloc (Nat.le_refl _) _).drew
   have hnx9 := hnx8.below hb9
   have a0 := (hb9.cell (p := ⟨b0 + 1 + 1, 0, none⟩) hbn8.lt).trans n0
   have a1 := (hb9.cell (p := ⟨wr.heap.size, 0, none⟩) hp8.lt).trans p0
   have a2 := (hb9.cell (p := ⟨wr.heap.size, 1, none⟩) hp8.lt).trans p1
   have a3 := hnx9.look_at rfl hv0
   have hown9 := own_below hown0 hb9
   have hbn9 := hbn8.below hb9 hbn8.lt
   have hp9 := hp8.below hb9 hp8.lt
   have hbx9 := hbx8.below hb9 hbx8.lt
   have H9 := Lib.hid (And.intro hnx9 (And.intro hbn9 (And.intro hbx9 (And.intro hp9 (And.intro hv0 (And.intro hown9 (hb8.trans (hb9.mono hb8.size))))))))
   clear hW8 hp8 hnx8 hbn8 hbx8 hb8 hv0 hown0 hb9 hnx9 hown9 hbn9 hp9 hbx9
   go_region_held3 (fun w' => w'.cell? ⟨b0 + 1 + 1, 0, none⟩ = some (.map (some (b0 + 1))) ∧ w'.cell? ⟨wr.heap.size, 0, none⟩ = some (.int .i64 p.1) ∧ w'.cell? ⟨wr.heap.size, 1, none⟩ = some (.int .i64 p.2))
    (first | exact ⟨n0, p0, p1⟩ | exact ⟨a0, a1, a2⟩ | exact ⟨q0, q1, q2⟩ | exact ⟨r0, r1, r2⟩ | go_keep)
    (first | (refine step_append_lies _ (by rfl) _ _ _ (by rfl) b0 3 i0 (.int .i64 0) 1 8 Tryz.underlying22 hi hz0 hz1 hz2 rfl (by decide) (.slice va (nexts (l.take k) p.1).length vc) (nexts (l.take k) p.1).length (nums (nexts (l.take k) p.1)) (by rfl) H9.out.2.2.2.2.2.1 ⟨W8.heap.size, 0, none⟩ 1 1 [.int .i64 p.2] (by rfl) rfl (by exact cell_one_new _ _ _) (by simp [Value.oneCell']) (by decide) (by unfold maxLen; omega) (by omega) (by simp; omega) _ rfl ?_; intro g cap w1 hown1 hgrow hat hlt; obtain ⟨w2, es2, hput, hnx2, hg2, hs2⟩ := H9.out.1.step p H9.out.2.2.2.2.1 hown1 hgrow hat; have g1 := H9.out.2.1.grown hgrow (fun e => H9.out.2.1.own_ne H9.out.2.2.2.2.2.1 (by decide) e.symm); have g2 := H9.out.2.2.2.1.grown hgrow (fun e => H9.out.2.2.2.1.own_ne H9.out.2.2.2.2.2.1 (by decide) e.symm); have q0 := g1.cell 0; have q1 := g2.cell 0; have q2 := g2.cell 1; have j1 := g1.grown hg2 (fun e => by injection e with e; omega); have hm1 := H9.out.1.isMap.grown hgrow (fun e => own_ne_mapB H9.out.2.2.2.2.2.1 H9.out.1.isMap e.symm); have j2 := g2.grown hg2 (fun e => g2.ne_mapB hm1 (by injection e)); have r0 := j1.cell 0; have r1 := j2.cell 0; have r2 := j2.cell 1))
   all_goals (
    have hx1 := H9.out.2.2.1.grown hgrow (fun e => H9.out.2.2.1.own_ne H9.out.2.2.2.2.2.1 (by decide) e.symm)
    have hx2 := hx1.grown hg2 (fun e => by injection e with e; omega)
    have htk : l.take (k + 1) = l.take k ++ [p] := by rw [List.take_add_one, List.getElem?_eq_getElem hka, ← Hp.out]; rfl
    have hz9 := H9.out.2.2.2.2.2.2.size
    have hz1' := hgrow.size
    have hb9' : Below b0 w _ := hbr.trans (H9.out.2.2.2.2.2.2.mono (by omega))
    have hbF : Below b0 w w2 := (hb9'.grown hgrow (Nat.le_trans (by omega) hz9) (fun j hj => (H9.out.2.2.2.2.2.1.lt j hj).1)).grown hg2 (Nat.le_trans (Nat.le_trans (by omega) hz9) hz1') (fun j hj => by cases hj; omega)
    have HF := Lib.hid (And.intro hx2 (And.intro htk (And.intro hbF (And.intro hnx2 j1))))
    clear hx1 hx2 htk hbF hnx2 j1 j2 g1 g2 hput hg2 hgrow hown1 hat
    go_wp2_with fail
    exact ⟨⟨k + 1, es2, by omega, by go_num, by rw [HF.out.2.1]; exact HF.out.2.2.2.1, HF.out.1, HF.out.2.2.2.2, HF.out.2.2.1⟩, by simp [intOf]; omega⟩)
  ·obtain rfl : k = l.length := by omega
   have hnxF := HB.out.1
   rw [List.take_length] at hnxF
   have HN := Lib.hid hnxF
   clear hnxF hnx hbx hbn
   go_upto_region 9 with (fail)
   generalize hW5 : (wr.alloc _) = W5
   obtain ⟨bv, hbv⟩ : ∃ b, wr.heap.size = b := ⟨_, rfl⟩
   have hb5 : Below wr.heap.size wr W5 := by rw [← hW5]; exact (Below.refl _ _).alloc (Nat.le_refl _) _
   have kv : ∃ T, Blk W5 bv #[.func (.func 70) #[] #[.pointer (some ⟨b0 + 2, 0, none⟩), .pointer (some ⟨b0, 0, none⟩), .pointer (some ⟨bv, 0, none⟩)]] T := by
    rw [← hW5, ← hbv]; exact ⟨_, Blk.new _ _ _⟩
   rw [hbv]
   rw [hbv] at hb5
   have hx5 := HB.out.2.1.below hb5 (by rw [← hbv]; exact HB.out.2.1.lt)
   have hn5 := HB.out.2.2.below hb5 (by rw [← hbv]; exact HB.out.2.2.lt)
   have hnx5 := HN.out.below (by rw [hbv]; exact hb5)
   have hbs5 : Blk W5 bs (bools xs).toArray 4 := (Hbs.out.1.below hbr (by have := Hbs.out.1.lt; omega)).below hb5 (by have := Hbs.out.1.lt; omega)
   have hb05 : Below b0 w W5 := hbr.trans (hb5.mono (by omega))
   have hbsl := Hbs.out.1.lt
   have hbvl : b0 + 2 < bv := by have := HB.out.2.2.lt; omega
   have H5 := Lib.hid (And.intro hx5 (And.intro hn5 (And.intro hnx5 (And.intro hbs5 (And.intro kv hb05)))))
   clear hW5 hx5 hn5 hnx5 hbs5 kv hb5 hbv hb05
   have x0 := H5.out.1.cell 0
   simp only [List.getElem?_toArray, List.getElem?_cons_zero] at x0
   go_wp2_with fail
   clear x0
   go_loopw [31] (fun i wx => ∃ (k : Nat) (ys : List Bool), k ≤ n ∧ i = .int .i64 k ∧ SprOut l xs k ys ∧ Blk wx bs (bools ys).toArray 4 ∧ Chg (fun k => k = bs) W5 wx) (fun i _ => n - (intOf i).toNat)
   case atStart => exact ⟨0, xs, Nat.zero_le _, rfl, SprOut.start l xs, H5.out.2.2.2.1, Chg.refl _ _⟩
   case round =>
    obtain ⟨k, ys, hk, rfl, hso, hbs', hc⟩ := hrel
    have HS := Lib.hid (And.intro hso (And.intro hbs' hc))
    have hyl : ys.length = n := by rw [hso.len]; exact hxl
    by_cases hkn : k < n
    ·have x0 := (H5.out.1.chg hc (by omega)).cell 0
     have tc := hbs'.cell k
     have etc : (bools ys).toArray[k]? = some (.bool ys[k]) := by simp [bools, hyl, hkn]
     rw [etc] at tc
     simp only [List.getElem?_toArray, List.getElem?_cons_zero] at x0
     clear etc hso hbs'
     cases hyk : ys[k] with
     | false =>
      rw [hyk] at tc
      have hno := Lib.hid (show ¬ Mk ys k from by unfold Mk; rw [List.getElem?_eq_getElem (by omega), hyk]; simp)
      clear hyk
      go_wp2_with fail
      exact ⟨⟨k + 1, ys, by omega, by go_num, HS.out.1.skip hno.out, HS.out.2.1, HS.out.2.2⟩, by simp [intOf]; omega⟩
     | true =>
      rw [hyk] at tc
      have hmk := Lib.hid (show Mk ys k from by unfold Mk; rw [List.getElem?_eq_getElem (by omega), hyk])
      obtain ⟨TV, hv⟩ := H5.out.2.2.2.2.1
      have v0 := (hv.chg hc (by omega)).cell 0
      simp only [List.getElem?_toArray, List.getElem?_cons_zero] at v0
      have HQ := Lib.hid (spread1_any l n hl hlen (b0 + 2) b0 bv bs (b0 + 1) b0 ⟨by omega, by omega, by omega⟩ es _ k ys wr rfl hyl hkn HS.out.2.1 (H5.out.1.chg hc (by omega)) (H5.out.2.1.chg hc (by omega)) ⟨TV, hv.chg hc (by omega)⟩ (H5.out.2.2.1.chg H5.out.2.2.2.1 hc))
      clear hyk hv
      go_wp2_with (go_at_call 70; refine HQ.out.mono ?_; rintro e w4 ⟨rfl, zs, hz1, hz2, hz3⟩)
      exact ⟨⟨k + 1, zs, by omega, by go_num, HS.out.1.visit hmk.out hz1, hz2, HS.out.2.2.trans hz3⟩, by simp [intOf]; omega⟩
    ·obtain rfl : k = n := by omega
     clear hso hbs'
     go_wp2
     go_end0
     have hfin := HS.out.1
     rw [← hxl] at hfin
     refine ⟨rfl, ys, hfin.all (fun p hp => ⟨(hl p hp).1.1, (hl p hp).2.1⟩), HS.out.2.1, ?_⟩
     exact (Chg.of_below _ (H5.out.2.2.2.2.2.mono (by omega))).trans hc
end Go.Proofs.YtfihjpffjdnahaaGreatDoor
