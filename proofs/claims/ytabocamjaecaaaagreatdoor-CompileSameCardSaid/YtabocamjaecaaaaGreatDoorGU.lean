/- Walk: step's inner function (machine.step$1): a place is put into the set and the queue, unless it is there. -/
import Derived.Test.YtabocamjaecaaaaGreatDoorGE
import Derived.Test.YtabocamjaecaaaaGreatDoorGP
import Derived.ArgAppend
import Derived.Laws.EntriesVeiled
namespace Go.Proofs.YtabocamjaecaaaaGreatDoor
open Go.RowKit Classical

/-- A row of places: whatever it begins at; its block is the call's own. -/
def QRow (w : World) (e : TypeId) (v : Value) (n : Nat) (cs : List Value) : Prop := cs.length = n * 2 ∧
 ((n = 0 ∧ ∃ ao, v = .slice ao 0 0) ∨ ∃ g off cap cur, v = .slice (some ⟨g, off, none⟩) n cap ∧ 0 < cap ∧ w.heap[g]? = some (.cells cur e (0, 0)) ∧ cur.size = off + cap * 2 ∧ n ≤ cap ∧ cap ≤ maxLen ∧ ∀ j, j < n * 2 → cur[off + j]? = cs[j]?)
def QOwn (v : Value) (k : Nat) : Prop := ∃ off n cap, v = .slice (some ⟨k, off, none⟩) n cap ∧ 0 < cap
theorem QRow.slice {w : World} {e : TypeId} {v : Value} {n : Nat} {cs : List Value} (h : QRow w e v n cs) : ∃ a c, v = .slice a n c := by
 rcases h.2 with ⟨rfl, ao, rfl⟩ | ⟨g, off, cap, cur, rfl, _⟩
 ·exact ⟨_, _, rfl⟩
 ·exact ⟨_, _, rfl⟩
theorem QRow.lt {w : World} {e : TypeId} {v : Value} {n : Nat} {cs : List Value} (h : QRow w e v n cs) {k : Nat} (hk : QOwn v k) : k < w.heap.size := by
 obtain ⟨off', n', cap', rfl, hc⟩ := hk
 rcases h.2 with ⟨rfl, ao, e'⟩ | ⟨g, off, cap, cur, e', _, hh, _⟩
 ·cases e'; omega
 ·cases e'; exact (Array.getElem?_eq_some_iff.1 hh).1
theorem QRow.cells {w : World} {e : TypeId} {v : Value} {n : Nat} {cs : List Value} (h : QRow w e v n cs) {k : Nat} (hk : QOwn v k) : ∃ cur, Blk w k cur e := by
 obtain ⟨off', n', cap', rfl, hc⟩ := hk
 rcases h.2 with ⟨rfl, ao, e'⟩ | ⟨g, off, cap, cur, e', _, hh, _⟩
 ·cases e'; omega
 ·cases e'; exact ⟨cur, hh⟩
theorem QRow.of_own {w : World} {base : Nat} {e : TypeId} {v : Value} {n : Nat} {cs : List Value} (h : w.ownsRow base e 2 v n cs) : QRow w e v n cs := by
 obtain ⟨hl, h1⟩ := h
 rcases h1 with ⟨rfl, rfl⟩ | ⟨g, cap, cur, rfl, hb, hh, hn, hm, hs, ht⟩
 ·exact ⟨hl, .inl ⟨rfl, _, rfl⟩⟩
 ·rcases Nat.eq_zero_or_pos cap with rfl | hc
  ·obtain rfl : n = 0 := by omega
   exact ⟨hl, .inl ⟨rfl, _, rfl⟩⟩
  ·refine ⟨hl, .inr ⟨g, 0, cap, cur, rfl, hc, hh, by omega, hn, hm, fun j hj => ?_⟩⟩
   rw [Nat.zero_add, ← ht, List.getElem?_take, if_pos hj, Array.getElem?_toList]
theorem QRow.chg {S : Nat → Prop} {w w' : World} {e : TypeId} {v : Value} {n : Nat} {cs : List Value} (h : QRow w e v n cs) (hc : Chg S w w') (hS : ∀ k, QOwn v k → ¬ S k) : QRow w' e v n cs := by
 obtain ⟨hl, h1⟩ := h
 rcases h1 with h1 | ⟨g, off, cap, cur, rfl, hc0, hh, r⟩
 ·exact ⟨hl, .inl h1⟩
 ·exact ⟨hl, .inr ⟨g, off, cap, cur, rfl, hc0, (hc.block g (Array.getElem?_eq_some_iff.1 hh).1 (hS g ⟨_, _, _, rfl, hc0⟩)).trans hh, r⟩⟩
theorem qown_new {w' : World} {base : Nat} {e : TypeId} {v : Value} {n : Nat} {cs : List Value} (h : w'.ownsRow base e 2 v n cs) : ∀ k, QOwn v k → base ≤ k := by
 rintro k ⟨off, n', cap, rfl, hc⟩
 rcases h.2 with ⟨e', _⟩ | ⟨g, cap', cur, e', hb, _⟩
 ·cases e'
 ·cases e'; exact hb

/-- One more. -/
theorem wpList_append_q {P : Program} (w : World) {ops : Array Oper} {rest : List Oper} {o : Oper} {a : Act} {Q : Exit → Act → World → Prop}
  (hg : o.guard = none) (s x : Operand) (t : TypeId) (hop : o.op = Op.call { callee := Callee.builtin Builtin.append, args := #[s, x], argTypes := #[t, t] })
  (e : TypeId) (i : TypeInfo) (z : Value) (bytes : Nat) (h1 : P.underlying t = some (.slice e)) (h2 : P.info? e = some i) (h3 : i.zero = some z) (h4 : i.size = 2) (h5 : i.bytes = bytes) (h6 : z.cells.size = 2)
  (v : Value) (n : Nat) (cs : List Value) (hs : a.eval s = v) (hq : QRow w e v n cs) (ad : Addr) (c : Nat) (news : List Value) (hx : a.eval x = .slice (some ad) 1 c) (hn : news.length = 2) (hc : ∀ j u, news[j]? = some u → w.cell? (ad.add j) = some u) (h1c : ∀ u ∈ news, u.oneCell' = true)
  (b1 : n + 1 ≤ maxLen) (b2 : (n + 1) * bytes ≤ 140737488355328)
  (hK : ∀ v' w', QRow w' e v' (n + 1) (cs ++ news) → Chg (fun k => QOwn v k) w w' → (∀ k, QOwn v' k → QOwn v k ∨ w.heap.size ≤ k) → wpList P ops Q rest (a.put o.dst v') w') :
  wpList P ops Q (o :: rest) a w := by
 obtain ⟨hlo, hq⟩ := hq
 rcases hq with ⟨rfl, ao, rfl⟩ | ⟨g, off, cap, cur, rfl, hc0, hh, hsz, hnc, hcm, hcs⟩
 ·obtain rfl : cs = [] := List.eq_nil_of_length_eq_zero (by simpa using hlo)
  exact wpList_append_grows w hg s x t hop e i z 2 bytes h1 h2 h3 h4 h5 h6 (by omega) ao 0 0 [] hs (fun _ => ⟨rfl, rfl⟩) (by simp) (by simp) ad 1 c news hx (by omega) hc h1c (by omega) b1 b2
   (fun v' w' hown hg' => hK v' w' (QRow.of_own hown) (Chg.of_grown hg' (by simp)) (fun k hk => .inr (qown_new hown k hk)))
 ·have hget : ∀ j, j < cap * 2 → w.cell? ⟨g, off + j, none⟩ = cur[off + j]? := fun j _ => cell_of_row w g (off + j) cur e (0, 0) hh
  refine wpList_append_arg w hg s x t hop e i z 2 bytes h1 h2 h3 h4 h5 h6 (by omega) g off n cap cs hs hlo (fun j u hj => ?_) ad 1 c news hx (by omega) hc h1c (fun hr j hj => ?_) b1 b2 (fun hr => ?_) (fun hr v' w' hown hg' => ?_)
  ·have hj' : j < n * 2 := by rw [← hlo]; exact (List.getElem?_eq_some_iff.1 hj).1
   rw [hget j (by omega), hcs j hj']; exact hj
  ·have hj2 : j < 2 := by omega
   refine ⟨?_, by simp [World.frozen?, hh]⟩
   rw [Nat.add_assoc, hget (n * 2 + j) (by omega), Array.getElem?_eq_getElem (by omega)]; rfl
  ·obtain ⟨x0, x1, rfl⟩ : ∃ x0 x1, news = [x0, x1] := by
    match news, hn with
    | [x0, x1], _ => exact ⟨x0, x1, rfl⟩
   have hb : Blk w g cur e := hh
   have hb2 := (hb.set_ (off + n * 2) x0).set_ (off + n * 2 + 1) x1
   refine hK _ _ ⟨by simp; omega, .inr ⟨g, off, cap, _, rfl, hc0, hb2, by simpa using hsz, hr, hcm, fun j hj => ?_⟩⟩ ?_ (fun k hk => .inl ?_)
   ·simp only [Array.getElem?_setIfInBounds, Array.size_setIfInBounds]
    by_cases h0 : j < n * 2
    ·rw [if_neg (by omega), if_neg (by omega), hcs j h0, List.getElem?_append_left (by omega)]
    ·rcases Nat.lt_or_ge j (n * 2 + 1) with h01 | h01
     ·obtain rfl : j = n * 2 := by omega
      rw [if_neg (by omega), if_pos rfl, if_pos (by omega), List.getElem?_append_right (by omega), hlo]
      simp
     ·obtain rfl : j = n * 2 + 1 := by omega
      rw [if_pos (by omega), if_pos (by omega), List.getElem?_append_right (by omega), hlo]
      simp
   ·exact (Chg.setCell (S := fun k => QOwn (.slice (some ⟨g, off, none⟩) n cap) k) (p := ⟨g, off + n * 2, none⟩) _ (.inl ⟨_, _, _, rfl, hc0⟩) _).trans (Chg.setCell (S := fun k => QOwn (.slice (some ⟨g, off, none⟩) n cap) k) (p := ⟨g, off + n * 2 + 1, none⟩) _ (.inl ⟨_, _, _, rfl, hc0⟩) _)
   ·obtain ⟨o', n', c', e', h'⟩ := hk
    cases e'; exact ⟨_, _, _, rfl, hc0⟩
  ·exact hK v' w' (QRow.of_own hown) (Chg.of_grown hg' (by simp)) (fun k hk => .inr (qown_new hown k hk))

def flatP (q : List Plc) : List Value := q.flatMap fun p => [.int .i64 p.st, .string p.tx]
theorem flatP_snoc (q : List Plc) (p : Plc) : flatP (q ++ [p]) = flatP q ++ [.int .i64 p.st, .string p.tx] := by simp [flatP]
theorem flatP_cons (q : List Plc) (p : Plc) : flatP (p :: q) = .int .i64 p.st :: .string p.tx :: flatP q := by simp [flatP]
theorem flatP_length (q : List Plc) : (flatP q).length = q.length * 2 := by
 induction q with
 | nil => rfl
 | cons x q ih => rw [flatP_cons]; simp [ih]; omega

/-- The set and the queue of step. -/
structure StAt (w : World) (b bq : Nat) (ks q : List Plc) (v : Value) : Prop where
 set : SetIs w b OkPlc (ks.map plcV)
 box : Blk w bq #[v] 114
 row : QRow w 74 v q.length (flatP q)
theorem StAt.apart {w : World} {b bq : Nat} {ks q : List Plc} {v : Value} (h : StAt w b bq ks q v) : ∀ k, QOwn v k → k ≠ b ∧ k ≠ bq := by
 intro k hk
 obtain ⟨cur, hb⟩ := h.row.cells hk
 unfold Blk at hb
 refine ⟨fun e => ?_, fun e => ?_⟩
 ·subst e
  obtain ⟨es, cl, hm, _⟩ := h.set
  rw [hb] at hm; cases hm
 ·subst e
  have := h.box
  unfold Blk at this
  rw [hb] at this
  injection this with h1
  injection h1 with _ h2
  exact absurd h2 (by decide)
theorem StAt.chg {S : Nat → Prop} {w w' : World} {b bq : Nat} {ks q : List Plc} {v : Value} (h : StAt w b bq ks q v) (hc : Chg S w w') (hb : ¬ S b) (hq : ¬ S bq) (hv : ∀ k, QOwn v k → ¬ S k) : StAt w' b bq ks q v :=
 ⟨MapIs.chg h.set hc hb, h.box.chg hc hq, h.row.chg hc hv⟩

theorem mem_plcV {ks : List Plc} {p : Plc} : plcV p ∈ ks.map plcV ↔ p ∈ ks := by
 rw [List.mem_map]
 exact ⟨fun ⟨y, hy, e⟩ => plcV_inj e ▸ hy, fun h => ⟨p, h, rfl⟩⟩

/-- What reaching a place turns. -/
def ReachPost (b bq : Nat) (ks q : List Plc) (v : Value) (p : Plc) (w : World) (e : Ending) (w' : World) : Prop :=
 e = .returned (.tuple #[]) ∧ ∃ v', StAt w' b bq (addP ks p) (q ++ newP ks p) v' ∧ Chg (fun k => k = b ∨ k = bq ∨ QOwn v k) w w' ∧ (∀ k, QOwn v' k → QOwn v k ∨ w.heap.size ≤ k)

theorem zero_bool2 (w : World) : (zeroValue 4).run Tryz.prog w = .ok (.bool false) w := by kernel_rfl
theorem info_place : (Tryz.prog.info? 74).map (fun i => (i.zero, i.size, i.bytes)) = some (some (.agg #[.int .i64 0, .string ⟨#[]⟩]), 2, 24) := by kernel_rfl

set_option maxRecDepth 100000 in
set_option maxHeartbeats 2000000 in
theorem reach_any (bt b bq : Nat) (ks q : List Plc) (v : Value) (p : Plc) (w : World) (ht : w.cell? ⟨bt, 0, none⟩ = some (.map (some b))) (h : StAt w b bq ks q v) (hne : b ≠ bq) (hbt : bt ≠ b ∧ bt ≠ bq) (hl : q.length ≤ 1000000000) :
  Calls Tryz.prog 49 #[.agg #[.int .i64 p.st, .string p.tx], .pointer (some ⟨bt, 0, none⟩), .pointer (some ⟨bq, 0, none⟩)] w (ReachPost b bq ks q v p w) := by
 obtain ⟨i0, hi, hz0, hz1, hz2⟩ := info_parts info_place
 obtain ⟨W0, hW0⟩ : ∃ W0 : World, W0 = w.alloc (.cells #[.int .i64 p.st, .string p.tx] 74) := ⟨_, rfl⟩
 have hb0 : Below w.heap.size w W0 := by rw [hW0]; exact (Below.refl _ _).alloc (Nat.le_refl _) _
 have hc0 : Chg (fun k => k = b ∨ k = bq ∨ QOwn v k) w W0 := Chg.of_below _ hb0
 have hst0 : StAt W0 b bq ks q v := h.chg (S := fun _ => False) (Chg.of_below _ hb0) (fun h => h) (fun h => h) (fun _ _ h => h)
 have hk0 : Blk W0 w.heap.size #[.int .i64 p.st, .string p.tx] 74 := by rw [hW0]; exact Blk.new _ _ _
 have t0 : W0.cell? ⟨bt, 0, none⟩ = some (.map (some b)) := (hb0.cell (p := ⟨bt, 0, none⟩) (lt_of_cell ht)).trans ht
 have p0 := hk0.cell 0
 have p1 := hk0.cell 1
 simp only [List.getElem?_toArray, List.getElem?_cons_zero, List.getElem?_cons_succ] at p0 p1
 have HW0 := Lib.hid hW0
 have H0 := Lib.hid (And.intro hc0 (And.intro hst0 hk0))
 clear hW0 hc0 hk0 ht
 by_cases hm : p ∈ ks
 ·have hlk := SetIs.look hst0.set keyPlc Tryz.underlying70 (zero_bool2 W0) (key := plcV p) ⟨p, rfl⟩
  rw [decide_eq_true (mem_plcV.2 hm)] at hlk
  unfold plcV at hlk
  have Hm := Lib.hid hm
  clear hm hst0 h
  go_enter Tryz.func49, Tryz.ntmps49
  go_upto_region 1 with (fail)
  rw [← HW0.out]
  go_wp2_with fail
  refine bodyPost_end (v := .tuple #[]) (by simp [results, Tryz.results49, go_sem]) rfl ?_
  refine ⟨rfl, v, ?_, H0.out.1, fun k hk => .inl hk⟩
  rw [addP, newP, if_pos Hm.out, if_pos Hm.out, List.append_nil]
  exact H0.out.2.1
 ·have hlk := SetIs.look hst0.set keyPlc Tryz.underlying70 (zero_bool2 W0) (key := plcV p) ⟨p, rfl⟩
  rw [decide_eq_false (fun h => hm (mem_plcV.1 h))] at hlk
  obtain ⟨w2, hrun, hs2, hg2, hz2'⟩ := SetIs.put hst0.set keyPlc Tryz.underlying70 (key := plcV p) ⟨p, rfl⟩
  unfold plcV at hlk hrun
  have Hm := Lib.hid hm
  have hc2 : Chg (fun k => k = b) W0 w2 := Chg.of_grown hg2 (fun r hr => by cases hr; exact .inl rfl)
  have hbl := MapIs.lt h.set
  have hap := hst0.apart
  have hbq2 := hst0.box.chg hc2 (Ne.symm hne)
  have q0 := hbq2.cell 0
  have hkp2 := H0.out.2.2.chg hc2 (show w.heap.size ≠ b by omega)
  have p0' := hkp2.cell 0
  have p1' := hkp2.cell 1
  have t2 : w2.cell? ⟨bt, 0, none⟩ = some (.map (some b)) := (heap_cell (hc2.block bt (lt_of_cell t0) hbt.1) 0).trans t0
  simp only [List.getElem?_toArray, List.getElem?_cons_zero, List.getElem?_cons_succ] at p0' p1' q0
  have hrow2 := hst0.row.chg hc2 (fun k hk => (hap k hk).1)
  obtain ⟨W3, hW3⟩ : ∃ W3 : World, W3 = w2.alloc (.cells #[.int .i64 p.st, .string p.tx] 74) := ⟨_, rfl⟩
  have hc3 : Chg (fun _ => False) w2 W3 := by rw [hW3]; exact Chg.alloc _ _ _
  have hrow3 := hrow2.chg hc3 (fun _ _ h => h)
  have hk3 : Blk W3 w2.heap.size #[.int .i64 p.st, .string p.tx] 74 := by rw [hW3]; exact Blk.new _ _ _
  have hcl3 : ∀ j u, [Value.int .i64 p.st, .string p.tx][j]? = some u → W3.cell? ((⟨w2.heap.size, 0, none⟩ : Addr).add j) = some u := fun j u hj => by
   rw [Addr.add_lit, Nat.zero_add, hk3.cell j]; simpa using hj
  have hbq3 := hbq2.chg hc3 (fun h => h)
  have HW3 := Lib.hid hW3
  have hset3 : SetIs W3 b OkPlc ((addP ks p).map plcV) := by
   rw [addP, if_neg hm, List.map_append]
   have := MapIs.chg hs2 hc3 (fun h => h)
   rw [addV, if_neg (fun h => hm (mem_plcV.1 h))] at this
   exact this
  have H3 := Lib.hid (And.intro hset3 (And.intro hbq3 (And.intro hc2 hc3)))
  have Hap := Lib.hid hap
  have Hbq := hst0.box.lt
  have hz02 := hc2.size
  have hz23 := hc3.size
  have hz00 := hb0.size
  have hbql := h.box.lt
  obtain ⟨va, vc, rfl⟩ := hst0.row.slice
  have Hrow3 := Lib.hid (And.intro hrow3 hcl3)
  clear hW3 hs2 hg2 hz2' hc2 hc3 hap hbq2 hbq3 hkp2 hrow2 hset3 hk3 hm hst0 h hcl3 hrow3
  go_enter Tryz.func49, Tryz.ntmps49
  go_upto_region 1 with (fail)
  rw [← HW0.out]
  go_wp2_with ((at_builtin; rw [← HW3.out]; refine wpList_append_q _ rfl _ _ 114 rfl 74 i0 _ 24 Tryz.underlying114 hi hz0 hz1 hz2 rfl _ q.length (flatP q) rfl Hrow3.out.1 ⟨w2.heap.size, 0, none⟩ 1 [.int .i64 p.st, .string p.tx] rfl rfl Hrow3.out.2 (by simp [Value.oneCell']) (by unfold maxLen; omega) (by omega) ?_; intro v' w4 hq4 hc4 hf4; obtain ⟨a4, c4, rfl⟩ := hq4.slice; have hb4 := H3.out.2.1.chg hc4 (fun hk => (Hap.out _ hk).2 rfl); have x4 := hb4.cell 0; have f4 := hb4.frozen 0; have H4 := Lib.hid (And.intro hq4 (And.intro hc4 (And.intro hf4 hb4))); clear hq4 hc4 hf4 hb4))
  refine bodyPost_end (v := .tuple #[]) (by simp [results, Tryz.results49, go_sem]) rfl ?_
  obtain ⟨hq4, hc4, hf4, hb4⟩ := H4.out
  obtain ⟨hset3, hbq3, hc2, hc3⟩ := H3.out
  have hset4 := MapIs.chg hset3 hc4 (fun hk => (Hap.out _ hk).1 rfl)
  refine ⟨rfl, _, ⟨MapIs.setCell hset4 (p := ⟨bq, 0, none⟩) (Ne.symm hne) _, Blk.set_ hb4 0 _, ?_⟩, ?_, fun k hk => ?_⟩
  ·rw [newP, if_neg Hm.out, flatP_snoc, List.length_append]
   refine QRow.chg hq4 (Chg.setCell (S := fun k => k = bq) (p := ⟨bq, 0, none⟩) _ (.inl rfl) _) (fun k hk e => ?_)
   rcases hf4 k hk with h1 | h1
   ·exact (Hap.out k h1).2 e
   ·omega
  ·refine (((H0.out.1.trans (hc2.mono (fun k hk => .inl hk))).trans (hc3.mono (fun k hk => hk.elim))).trans (hc4.mono (fun k hk => .inr (.inr hk)))).trans (Chg.setCell (S := fun k => k = b ∨ k = bq ∨ QOwn _ k) (p := ⟨bq, 0, none⟩) _ (.inl (.inr (.inl rfl))) _)
  ·rcases hf4 k hk with h1 | h1
   ·exact .inl h1
   ·exact .inr (by omega)
end Go.Proofs.YtabocamjaecaaaaGreatDoor
