/- K8 -/
import Derived.Test.YthachfkcgdfdfaaGreatDoorP09
/- Walk: machine.step: the places behind a step. -/
namespace Go.Proofs.YthachfkcgdfdfaaGreatDoor
open Go.RowKit Classical
open Go.Shelf
attribute [local go_sem] Oper.semAt_some
attribute [local go_sem] undef_bool undef_bool'

/-- The marks that ranges over functions have left. -/
def markOf (D : Nat) : Deferred := { target := .collected D, args := #[] }
def MarksOk (ds : List Deferred) (W : World) (n0 : Nat) : Prop := ∃ Ds : List Nat, ds = Ds.map markOf ∧ Ds.Nodup ∧ ∀ D ∈ Ds, n0 ≤ D ∧ W.heap[D]? = some (.deferred (some []))
theorem MarksOk.nil (W : World) (n0 : Nat) : MarksOk [] W n0 := ⟨[], rfl, List.nodup_nil, by simp⟩
theorem MarksOk.chg {S : Nat → Prop} {ds : List Deferred} {W W' : World} {n0 : Nat} (h : MarksOk ds W n0) (hc : Chg S W W') (hS : ∀ D, W.heap[D]? = some (.deferred (some [])) → n0 ≤ D → ¬ S D) : MarksOk ds W' n0 := by
 obtain ⟨Ds, h1, h2, h3⟩ := h
 refine ⟨Ds, h1, h2, fun D hD => ?_⟩
 obtain ⟨h4, h5⟩ := h3 D hD
 exact ⟨h4, (hc.block D (Array.getElem?_eq_some_iff.1 h5).1 (hS D h5 h4)).trans h5⟩
theorem MarksOk.lt {ds : List Deferred} {W : World} {n0 : Nat} (h : MarksOk ds W n0) : ∃ Ds : List Nat, ds = Ds.map markOf ∧ Ds.Nodup ∧ (∀ D ∈ Ds, n0 ≤ D ∧ W.heap[D]? = some (.deferred (some []))) ∧ ∀ D ∈ Ds, D < W.heap.size := by
 obtain ⟨Ds, h1, h2, h3⟩ := h
 exact ⟨Ds, h1, h2, h3, fun D hD => (Array.getElem?_eq_some_iff.1 (h3 D hD).2).1⟩
theorem MarksOk.cons {S : Nat → Prop} {ds : List Deferred} {W W' : World} {n0 D : Nat} (h : MarksOk ds W n0) (hc : Chg S W W') (hS : ∀ D, W.heap[D]? = some (.deferred (some [])) → n0 ≤ D → ¬ S D) (hD : W.heap.size ≤ D) (hn : n0 ≤ W.heap.size) (hK : W'.heap[D]? = some (.deferred (some []))) :
  MarksOk ({ target := .collected D, args := #[] } :: ds) W' n0 := by
 obtain ⟨Ds, h1, h2, h3, h4⟩ := h.lt
 obtain ⟨Ds', h1', h2', h3'⟩ := h.chg hc hS
 refine ⟨D :: Ds, by rw [h1]; rfl, List.nodup_cons.2 ⟨fun hm => by have := h4 D hm; omega, h2⟩, fun E hE => ?_⟩
 rcases List.mem_cons.1 hE with rfl | hE
 ·exact ⟨by omega, hK⟩
 ·obtain ⟨h5, h6⟩ := h3 E hE
  exact ⟨h5, (hc.block E (h4 E hE) (hS E h6 h5)).trans h6⟩
/-- Leaving with marks. -/
theorem leaves_marks {F : Fence} {n : Nat} {P : Program} {fn : Func} {tmps : Array Value} {R : Ending → World → Prop} : ∀ (Ds : List Nat) (W : World), Ds.Nodup → (∀ D ∈ Ds, W.heap[D]? = some (.deferred (some []))) →
  (∀ W', Chg (fun k => k ∈ Ds) W W' → ∃ v, (results fn tmps).run P W' = .ok v W' ∧ R (.returned v) W') → LeavesInM F n P fn tmps R (Ds.map markOf) .returning W
 | [], W, _, _, h => by
  obtain ⟨v, h1, h2⟩ := h W (Chg.refl _ _)
  exact ⟨v, h1, h2⟩
 | D :: Ds, W, hn, hD, h => by
  obtain ⟨hn1, hn2⟩ := List.nodup_cons.1 hn
  have hK := hD D (by simp)
  refine ⟨by simp, .inl ⟨D, W.putObj D (.deferred none), rfl, run_takeDeferred hK, ?_⟩⟩
  refine leaves_marks Ds _ hn2 (fun E hE => ?_) (fun W' hc => h W' ?_)
  ·have hne : E ≠ D := fun e => hn1 (e ▸ hE)
   exact (World.putObj_heap_other hne).trans (hD E (by simp [hE]))
  ·refine Chg.trans (w' := W.putObj D (.deferred none)) ⟨rfl, rfl, rfl, Nat.le_of_eq World.putObj_size.symm, fun k _ hk => World.putObj_heap_other (fun e => hk (by rw [e]; exact List.mem_cons_self))⟩ (hc.mono (fun k hk => List.mem_cons_of_mem _ hk))

theorem Chg.trans_if {S T : Nat → Prop} {w w' w'' : World} (h : Chg S w w') (k : Chg T w' w'') (hT : ∀ i, T i → i < w.heap.size → S i) : Chg S w w'' :=
 ⟨k.os.trans h.os, k.tape.trans h.tape, k.output.trans h.output, Nat.le_trans h.size k.size, fun i hi hS => (k.block i (Nat.lt_of_lt_of_le hi h.size) (fun ht => hS (hT i ht hi))).trans (h.block i hi hS)⟩
theorem keepsFrom_chg2 {S : Nat → Prop} {W W' : World} (B : Nat) (h : Chg S W W') (hS : ∀ k, S k → k < B ∨ ∃ (cs : Array Value) (t : TypeId), Blk W k cs t) : KeepsFrom B W W' :=
 ⟨h.size, fun k o hB hk ho => by
  refine (h.block k (Array.getElem?_eq_some_iff.1 hk).1 (fun hs => ?_)).trans hk
  rcases hS k hs with h1 | ⟨cs, t, hb⟩
  ·omega
  ·unfold Blk at hb
   rw [hb] at hk; cases hk; cases ho⟩
theorem QRow.grown {w w' : World} {e : TypeId} {v : Value} {n : Nat} {cs : List Value} {row : Option Nat} (h : QRow w e v n cs) (hg : w.grownBy w' row) (hr : ∀ r, row = some r → ∃ o : Obj, w.heap[r]? = some o ∧ o.isCells = false) : QRow w' e v n cs := by
 obtain ⟨hl, h1⟩ := h
 rcases h1 with h1 | ⟨g, off, cap, cur, rfl, hc0, hh, r⟩
 ·exact ⟨hl, .inl h1⟩
 ·exact ⟨hl, .inr ⟨g, off, cap, cur, rfl, hc0, ownBlk hh hg hr, r⟩⟩
theorem StAt.grown {w w' : World} {b bq : Nat} {ks q : List Plc} {v : Value} {row : Option Nat} (h : StAt w b bq ks q v) (hg : w.grownBy w' row) (hr : ∀ r, row = some r → ∃ o : Obj, w.heap[r]? = some o ∧ o.isCells = false) (hb : ∀ r, row = some r → b < r) : StAt w' b bq ks q v :=
 ⟨MapIs.grown h.set hg (fun e => by have := hb b e.symm; omega), ownBlk h.box hg hr, h.row.grown hg hr⟩
theorem MapIs.len {P : Program} {w : World} {b : Nat} {Ok : Value → Prop} {l : List (Value × Value)} {k e t : TypeId} (h : MapIs w b Ok l) (ht : P.underlying t = some (.map k e)) (ty : TypeId) : (Builtin.len_ #[t] ty #[.map (some b)]).run P w = .ok (.int .i64 l.length) w := by
 obtain ⟨es, clock, hb, hs, hk, rfl⟩ := h
 simp [Builtin.len_, run_underlying ht, MapKept.run_getObj_map hb, goInt, Result.andThen]

theorem after_any (s : ByteArray) (d : Int) (hd : SymOk d) (hs : s.size ≤ 1000000) (w : World) :
  Calls Tryz.prog 171 #[.string s, .int .i64 d] w fun e w' => e = .returned (.string (afterB s d)) ∧ Below w.heap.size w w' := by
 rcases hd with rfl | hd
 ·refine (after_none s w).mono ?_
  rintro e w' ⟨rfl, rfl⟩
  exact ⟨by simp [afterB], Below.refl _ _⟩
 ·obtain ⟨n, rfl⟩ : ∃ n : Nat, d = n := ⟨d.toNat, by omega⟩
  refine (after_some s n (by omega) (by omega) hs w).mono ?_
  rintro e w' ⟨rfl, hb⟩
  refine ⟨?_, hb⟩
  rw [afterB, if_neg (by omega), Int.toNat_natCast]

/-- A frame under other words. -/
theorem wp_reframe {P : Program} {cd : Code} {Q : Exit → Act → World → Prop} {T : Array Value} {ds : List Deferred} {W : World} (f : (Nat → Value) → Array Value) (h : T = f (fun k => T[k]?.getD undef)) (hw : ∀ u, cd.wp P Q { tmps := f u, defers := ds } W) : cd.wp P Q { tmps := T, defers := ds } W := by
 rw [h]; exact hw _

def plcP (p : Plc) : Value × Value := (plcV p, .bool true)
theorem split_plc {rest : List Plc} {A B : List (Value × Value)} {pr : Value × Value} (h : rest.map plcP = A ++ pr :: B) : ∃ ra p rb, rest = ra ++ p :: rb ∧ A = ra.map plcP ∧ pr = plcP p ∧ B = rb.map plcP := by
 obtain ⟨l1, l2, rfl, h1, h2⟩ := List.map_eq_append_iff.1 h
 obtain ⟨p, l3, rfl, h3, h4⟩ := List.map_eq_cons_iff.1 h2
 exact ⟨l1, p, l3, rfl, h1.symm, h3.symm, h4.symm⟩

/-- What a step answers. -/
def StepPost (M : Mach) (fs : List Plc) (c : Int) (L : Nat) (w : World) (e : Ending) (w' : World) : Prop :=
 ∃ (b : Nat) (ks : List Plc), e = .returned (.tuple #[.map (some b), .bool (decide (ks.length ≤ 2000))]) ∧ SetIs w' b OkPlc (ks.map plcV) ∧ w.heap.size ≤ b ∧ Below w.heap.size w w' ∧ (∀ p ∈ ks, StepM M (· ∈ fs) c p) ∧ (ks.length ≤ 2000 → ∀ p, StepM M (· ∈ fs) c p → p ∈ ks) ∧
  (∀ p ∈ ks, p.tx.size ≤ L + 2002) ∧ (∀ p ∈ ks, StateOk M.states p.st)

set_option maxRecDepth 100000 in
set_option maxHeartbeats 8000000 in
theorem step_any (M : Mach) (hv : ValidM M) (v : Value) (fs : List Plc) (bf : Nat) (c : Int) (L : Nat) (w : World) (h : MachAt w w.heap.size v M) (hfs : SetIs w bf OkPlc (fs.map plcV)) (hc0 : 0 ≤ c) (hc1 : c ≤ 255) (hL : L ≤ 900000) (hsz : ∀ p ∈ fs, p.tx.size ≤ L) (hst : ∀ p ∈ fs, StateOk M.states p.st) (hfl2 : fs.length ≤ 2000) :
  Calls Tryz.prog 103 #[v, .map (some bf), .int .i64 c] w (StepPost M fs c L w) := by
 obtain ⟨fa, fc, aa, ac, rfl, hfl, hal, hf, ha⟩ := h
 have hmm := @run_makeMap Tryz.prog
 have hst4 : M.states ≤ 4000 := hv.most
 refine (callsIn_wide (n := 5)).1 ?_
 refine callsIn_of_wp_marks Tryz.func103 rfl trivial ?_ rfl
 simp only [Tryz.ntmps103, List.size_toArray, List.length_cons, List.length_nil, Nat.reduceAdd, Nat.reduceSub, Array.replicate_succ, Array.replicate_zero, List.push_toArray, List.append_toArray, List.nil_append, List.cons_append]
 refine wpIn_wide.2 ?_
 go_upto_region 4 with (fail)
 clear hmm
 rename_i K1 hK1 K0 hK0
 have HK0 := Lib.hid hK0
 have HK1 := Lib.hid hK1
 clear hK0 hK1
 generalize hW0 : (((((w.alloc _).alloc _).alloc _).alloc _).alloc _) = W0
 obtain ⟨b0, hb0⟩ : ∃ b, w.heap.size = b := ⟨_, rfl⟩
 have k0 : Blk W0 b0 #[.int .i64 M.states, .int .i64 M.start, .slice fa M.final.length fc, .slice aa M.arcs.length ac] 96 := by
  rw [← hW0, ← hb0]; exact ((((Blk.new _ _ _).alloc _).alloc _).alloc _).alloc _
 have k1 : SetIs W0 (b0 + 1) OkPlc (([] : List Plc).map plcV) := by
  rw [← hW0, ← hb0]
  have := SetIs.made (w.alloc (.cells #[.int .i64 M.states, .int .i64 M.start, .slice fa M.final.length fc, .slice aa M.arcs.length ac] 96)) OkPlc
  simp only [World.size_alloc] at this
  exact ((MapIs.alloc this _).alloc _).alloc _
 have k2 : Blk W0 (b0 + 2) #[.map (some (b0 + 1))] 161 := by
  rw [← hW0, ← hb0]
  have := (Blk.new ((w.alloc (.cells #[.int .i64 M.states, .int .i64 M.start, .slice fa M.final.length fc, .slice aa M.arcs.length ac] 96)).alloc (.map #[] 0)) #[.map (some (w.heap.size + 1))] 161)
  simp only [World.size_alloc] at this
  exact (this.alloc _).alloc _
 have k3 : Blk W0 (b0 + 3) #[.slice none 0 0] 238 := by
  rw [← hW0, ← hb0]
  have := (Blk.new (((w.alloc (.cells #[.int .i64 M.states, .int .i64 M.start, .slice fa M.final.length fc, .slice aa M.arcs.length ac] 96)).alloc (.map #[] 0)).alloc (.cells #[.map (some (w.heap.size + 1))] 161)) #[.slice none 0 0] 238)
  simp only [World.size_alloc] at this
  exact this.alloc _
 have k4 : ∃ T, Blk W0 (b0 + 4) #[.func (.func 170) #[] #[.pointer (some ⟨b0 + 2, 0, none⟩), .pointer (some ⟨b0 + 3, 0, none⟩)]] T := by
  rw [← hW0, ← hb0]
  have := fun T => Blk.new ((((w.alloc (.cells #[.int .i64 M.states, .int .i64 M.start, .slice fa M.final.length fc, .slice aa M.arcs.length ac] 96)).alloc (.map #[] 0)).alloc (.cells #[.map (some (w.heap.size + 1))] 161)).alloc (.cells #[.slice none 0 0] 238)) #[.func (.func 170) #[] #[.pointer (some ⟨w.heap.size + 2, 0, none⟩), .pointer (some ⟨w.heap.size + 3, 0, none⟩)]] T
  simp only [World.size_alloc] at this
  exact ⟨_, this _⟩
 have hbw : Below w.heap.size w W0 := by
  rw [← hW0]; exact (((((Below.refl _ _).alloc (Nat.le_refl _) _).alloc (by simp) _).alloc (by simp; omega) _).alloc (by simp; omega) _).alloc (by simp; omega) _
 have hs0 : W0.heap.size = b0 + 5 := by rw [← hW0]; simp [hb0]
 have hrow0 := ha.below hbw (Nat.le_refl _)
 have hfs0 : SetIs W0 bf OkPlc (fs.map plcV) := MapIs.below hfs hbw (MapIs.lt hfs)
 have hbf : bf < b0 := by rw [← hb0]; exact MapIs.lt hfs
 rw [hb0] at hrow0
 have haa : 0 < M.arcs.length → ∀ p, aa = some p → p.block < b0 := fun hp p e => by
  obtain ⟨b, off, e', hb, _⟩ := ha (by rw [flat_length]; omega)
  rw [e] at e'; cases e'; show b < b0; omega
 have hst0 : StAt W0 (b0 + 1) (b0 + 3) [] [] (.slice none 0 0) := ⟨k1, k3, ⟨rfl, .inl ⟨rfl, _, rfl⟩⟩⟩
 clear hW0
 rw [hb0]
 obtain ⟨T4, k4⟩ := k4
 have HB := Lib.hid (And.intro k0 (And.intro k2 (And.intro k4 (And.intro hrow0 (And.intro hfs0 hst0)))))
 have Hb := Lib.hid (And.intro hbw hb0)
 have hsm : ∀ a ∈ M.arcs, Small a := fun a ha => small_of hst4 (hv.arcs a ha)
 have hout : ∀ a ∈ M.arcs, 0 ≤ a.out := fun a ha => by have := (hv.arcs a ha).2.2.2; unfold SymOk at this; omega
 have hto : ∀ a ∈ M.arcs, StateOk M.states a.to := fun a ha => (hv.arcs a ha).2.1
 have hT : ∀ s d : Int, StateOk M.states s → 0 ≤ d → d ≤ 255 → Small (tgt s d) := fun s d hs h1 h2 => by
  unfold StateOk at hs; unfold Small tgt; simp; omega
 have HV := Lib.hid (And.intro hv (And.intro hsm (And.intro hout (And.intro hto hT))))
 have HF := Lib.hid (And.intro hsz (And.intro hst haa))
 clear k0 k1 k2 k3 k4 hbw hrow0 hfs0 hst0 ha hb0 hf hv hsm hout hto hT hsz hst haa hfs
 -- the second part: all that is reached by arcs that read nothing
 have hP2 : ∀ (a : Act) (W : World), (∃ (u : Nat → Value) (ds : List Deferred) (ks : List Plc) (vq : Value), a = { tmps := (List.toArray (α := Value) (.agg #[.int .i64 M.states, .int .i64 M.start, .slice fa M.final.length fc, .slice aa M.arcs.length ac] :: .map (some bf) :: .int .i64 c :: .pointer (some ⟨b0, 0, none⟩) :: u 4 :: u 5 :: .map none :: .bool false :: .pointer (some ⟨b0 + 2, 0, none⟩) :: .pointer (some ⟨b0 + 3, 0, none⟩) :: .pointer (some ⟨b0 + 4, 0, none⟩) :: u 11 :: u 12 :: u 13 :: u 14 :: u 15 :: u 16 :: u 17 :: u 18 :: u 19 :: u 20 :: u 21 :: u 22 :: u 23 :: u 24 :: u 25 :: u 26 :: u 27 :: u 28 :: u 29 :: u 30 :: u 31 :: u 32 :: u 33 :: u 34 :: u 35 :: u 36 :: u 37 :: u 38 :: u 39 :: u 40 :: u 41 :: u 42 :: u 43 :: u 44 :: u 45 :: u 46 :: u 47 :: u 48 :: u 49 :: u 50 :: u 51 :: u 52 :: u 53 :: u 54 :: u 55 :: u 56 :: u 57 :: u 58 :: u 59 :: u 60 :: u 61 :: u 62 :: u 63 :: u 64 :: u 65 :: u 66 :: u 67 :: u 68 :: u 69 :: u 70 :: u 71 :: u 72 :: u 73 :: u 74 :: u 75 :: u 76 :: u 77 :: u 78 :: u 79 :: u 80 :: u 81 :: u 82 :: [])), defers := ds } ∧ Ph1 M (Setout M (· ∈ fs) c) L ks ∧ StAt W (b0 + 1) (b0 + 3) ks ks vq ∧ Chg (fun k => k = b0 + 1 ∨ k = b0 + 3) W0 W ∧ (∀ k, QOwn vq k → W0.heap.size ≤ k) ∧ MarksOk ds W W0.heap.size) → K1 a W := by
  rintro a W ⟨u, ds, ks, vq, rfl, hph, hst, hcg, hqo, hmk⟩
  refine HK1.out _ _ ?_
  have H := Lib.hid (And.intro hph (And.intro hst (And.intro hcg (And.intro hqo hmk))))
  clear hph hst hcg hqo hmk
  go_wp2_with fail
  clear HK0 HK1
  refine wp_loop_ghost (fun m a W => ∃ (u : Nat → Value) (ds : List Deferred) (ks : List Plc) (i : Nat) (vq : Value), a = { tmps := (List.toArray (α := Value) (.agg #[.int .i64 M.states, .int .i64 M.start, .slice fa M.final.length fc, .slice aa M.arcs.length ac] :: .map (some bf) :: .int .i64 c :: .pointer (some ⟨b0, 0, none⟩) :: u 4 :: u 5 :: .map none :: .bool false :: .pointer (some ⟨b0 + 2, 0, none⟩) :: .pointer (some ⟨b0 + 3, 0, none⟩) :: .pointer (some ⟨b0 + 4, 0, none⟩) :: u 11 :: u 12 :: u 13 :: u 14 :: u 15 :: u 16 :: u 17 :: u 18 :: u 19 :: u 20 :: u 21 :: u 22 :: u 23 :: u 24 :: u 25 :: u 26 :: u 27 :: u 28 :: u 29 :: u 30 :: u 31 :: u 32 :: u 33 :: u 34 :: u 35 :: u 36 :: u 37 :: u 38 :: u 39 :: u 40 :: u 41 :: u 42 :: u 43 :: u 44 :: u 45 :: u 46 :: u 47 :: u 48 :: u 49 :: u 50 :: u 51 :: u 52 :: u 53 :: u 54 :: u 55 :: u 56 :: u 57 :: u 58 :: u 59 :: u 60 :: u 61 :: u 62 :: u 63 :: u 64 :: u 65 :: u 66 :: u 67 :: u 68 :: u 69 :: u 70 :: u 71 :: u 72 :: u 73 :: u 74 :: u 75 :: u 76 :: u 77 :: u 78 :: u 79 :: u 80 :: u 81 :: u 82 :: [])), defers := ds } ∧ m = 2001 - i ∧ i ≤ 2000 ∧ BInv M (Setout M (· ∈ fs) c) L i ks ∧ StAt W (b0 + 1) (b0 + 3) ks (ks.drop i) vq ∧ Chg (fun k => k = b0 + 1 ∨ k = b0 + 3) W0 W ∧ (∀ k, QOwn vq k → W0.heap.size ≤ k) ∧ MarksOk ds W W0.heap.size) 2001 ⟨u, ds, ks, 0, vq, rfl, rfl, Nat.zero_le _, H.out.1.start, H.out.2.1, H.out.2.2.1, H.out.2.2.2.1, H.out.2.2.2.2⟩ ?_
  clear H
  clear u ds ks vq W
  rintro m a W ⟨u, ds, ks, i, vq, rfl, rfl, hi, hB, hst, hcg, hqo, hmk⟩
  obtain ⟨qa, qc, rfl⟩ := hst.row.slice
  obtain ⟨n, hn⟩ : ∃ n, (ks.drop i).length = n := ⟨_, rfl⟩
  have hn' : n = ks.length - i := by rw [← hn, List.length_drop]
  have hil := hB.il
  have q0 := hst.box.cell 0
  have qf := hst.box.frozen 0
  have t0 := (HB.out.2.1.chg hcg (by omega)).cell 0
  rw [hn] at q0
  simp only [List.getElem?_toArray, List.getElem?_cons_zero] at q0 t0
  have hlen : ∀ ty, (Builtin.len_ #[161] ty #[.map (some (b0 + 1))]).run Tryz.prog W = .ok (.int .i64 ks.length) W := fun ty => by
   have := MapIs.len (P := Tryz.prog) hst.set Tryz.underlying161 ty
   simpa using this
  have hout : ∀ tmps : Array Value, ∀ b : Bool, b = decide (ks.length ≤ 2000) → (ks.length ≤ 2000 → i = ks.length) → tmps[6]?.getD undef = .map (some (b0 + 1)) → tmps[7]?.getD undef = .bool b → bodyPostM Fence.wide 5 Tryz.prog Tryz.f103 (StepPost M fs c L w) .ret { tmps := tmps, defers := ds } W := fun tmps b hb hfin e6 e7 => by
   obtain ⟨Ds, rfl, hnd, hD⟩ := hmk
   show LeavesInM _ _ _ _ _ _ _ _ _
   refine leaves_marks Ds W hnd (fun D h => (hD D h).2) (fun W' hc => ⟨.tuple #[.map (some (b0 + 1)), .bool b], by simp [results, Tryz.results103, go_sem, e6, e7], b0 + 1, ks, by rw [hb], ?_, ?_, ?_, hB.snd, fun h p hp => ?_, fun p hp => by have := hB.size p hp; omega, hB.st⟩)
   ·exact MapIs.chg hst.set hc (fun h => by have := (hD _ h).1; omega)
   ·have := Hb.out.2; omega
   ·have h1 := Hb.out.1
    refine h1.trans ⟨hc.os.trans hcg.os, hc.tape.trans hcg.tape, hc.output.trans hcg.output, Nat.le_trans hcg.size hc.size, fun k hk => ?_⟩
    have e := Hb.out.2
    exact (hc.block k (by have := hcg.size; omega) (fun h => by have := (hD _ h).1; omega)).trans (hcg.block k (by omega) (by omega))
   ·have e := hfin h
    subst e
    exact hB.finish hp
  have HO := Lib.hid hout
  have HI := Lib.hid (And.intro hB (And.intro hst (And.intro hcg (And.intro hqo hmk))))
  have hn1 : n ≤ ks.length - i := by omega
  have hn2 : ks.length - i ≤ n := by omega
  clear hout hB hst hcg hqo hmk hn hn'
  rcases Nat.eq_zero_or_pos n with h0 | h0
  ·subst h0
   have d1 : decide ((0 : Int) < ((0 : Nat) : Int)) = false := rfl
   go_wp2_with fail
   refine HO.out _ ?b1 ?hb1 (fun _ => by omega) ?e61 ?e71
   case e61 => exact rfl
   case e71 => exact rfl
   case hb1 => simp; omega
  ·have d1 : decide ((0 : Int) < (n : Int)) = true := decide_eq_true (by omega)
   by_cases hbig : ks.length ≤ 2000
   ·have d2 : decide ((ks.length : Int) ≤ 2000) = true := decide_eq_true (by omega)
    have hil2 : i < ks.length := by omega
    obtain ⟨p, hp⟩ : ∃ p, ks[i]? = some p := ⟨_, List.getElem?_eq_getElem hil2⟩
    have hdrop : ks.drop i = p :: ks.drop (i + 1) := by
     rw [List.drop_eq_getElem_cons hil2]; congr 1; rw [List.getElem?_eq_getElem hil2] at hp; exact Option.some.inj hp
    obtain ⟨n, rfl⟩ : ∃ m, n = m + 1 := ⟨n - 1, by omega⟩
    obtain ⟨hrl, hrow⟩ := HI.out.2.1.row
    rcases hrow with ⟨h00, _⟩ | ⟨g, off, cap, cur, hqv, hcap, hgh, hgs, hnc, hcm, hcells⟩
    ·rw [hdrop] at h00; simp at h00
    ·have hgc : ∀ j, W.cell? ⟨g, off + j, none⟩ = cur[off + j]? := fun j => cell_of_row W g (off + j) cur _ (0, 0) hgh
     injection hqv with e1 e2 e3
     subst e1; subst e3
     have p0 := hgc 0
     have p1 := hgc 1
     rw [hcells 0 (by rw [hdrop]; simp), hdrop, flatP_cons] at p0
     rw [hcells 1 (by rw [hdrop]; simp; omega), hdrop, flatP_cons] at p1
     simp only [List.getElem?_cons_zero, List.getElem?_cons_succ, Nat.add_zero] at p0 p1
     have HG0 := Lib.hid hp
     have HG := Lib.hid (And.intro hp (And.intro hdrop (And.intro hgh (And.intro hgs (And.intro hnc (And.intro hcm hcells))))))
     clear hp hdrop hgh hgs hcells hgc hrl e2
     go_upto_region 17 with (fail)
     obtain ⟨W1, hW1⟩ : ∃ W1 : World, W1 = W.alloc (.cells #[.int .i64 p.st, .string p.tx] 165) := ⟨_, rfl⟩
     rw [← hW1]
     obtain ⟨pb, hpb⟩ : ∃ pb, W.heap.size = pb := ⟨_, rfl⟩
     have hc1 : Chg (fun _ => False) W W1 := by rw [hW1]; exact Chg.alloc _ _ _
     have hpk : Blk W1 pb #[.int .i64 p.st, .string p.tx] 165 := by rw [hW1, ← hpb]; exact Blk.new _ _ _
     have hsz1 : W1.heap.size = pb + 1 := by rw [hW1, ← hpb]; simp
     have hqb1 := HI.out.2.1.box.chg hc1 (fun h => h)
     have q1 := hqb1.cell 0
     have f1 := hqb1.frozen 0
     simp only [List.getElem?_toArray, List.getElem?_cons_zero] at q1
     have hln : (ks.drop i).length = n + 1 := by rw [List.length_drop]; omega
     rw [hln] at q1
     rw [hpb]
     have H1 := Lib.hid (And.intro hpb (And.intro hc1 (And.intro hpk hqb1)))
     clear hW1 hpb hc1 hpk hqb1 q0 qf t0 p0 p1 hlen d1 d2 hln
     -- behind the queue's turn
     have hrest : ∀ (vq2 : Value) (W2 : World), W2 = W1.setCell ⟨b0 + 3, 0, none⟩ vq2 → QRow W 165 vq2 (ks.drop (i + 1)).length (flatP (ks.drop (i + 1))) → (∀ k, QOwn vq2 k → k = g) →
       StAt W2 (b0 + 1) (b0 + 3) ks (ks.drop (i + 1)) vq2 ∧ Chg (fun k => k = b0 + 1 ∨ k = b0 + 3) W0 W2 ∧ (∀ k, QOwn vq2 k → W0.heap.size ≤ k) ∧ MarksOk ds W2 W0.heap.size ∧ Blk W2 pb #[.int .i64 p.st, .string p.tx] 165 ∧ (∀ k, QOwn vq2 k → k < pb) ∧ W2.heap.size = pb + 1 := by
      intro vq2 W2 hW2 hq hg
      obtain ⟨h1, h2, h3, h4⟩ := H1.out
      obtain ⟨hB, hst, hcg, hqo, hmk⟩ := HI.out
      have hgo : W0.heap.size ≤ g := hqo g ⟨_, _, _, rfl, hcap⟩
      have hb1 := MapIs.lt hst.set
      have hcs : Chg (fun k => k = b0 + 3) W1 W2 := by rw [hW2]; exact Chg.setCell (S := fun k => k = b0 + 3) (p := ⟨b0 + 3, 0, none⟩) _ (.inl rfl) _
      have hgl := hst.row.lt ⟨_, _, _, rfl, hcap⟩
      refine ⟨⟨MapIs.chg (MapIs.chg hst.set h2 (fun h => h)) hcs (by omega), ?_, (hq.chg h2 (fun _ _ h => h)).chg hcs (fun k hk e => ?_)⟩, ?_, fun k hk => by rw [hg k hk]; exact hgo, ?_, h3.chg hcs (by have := hst.box.lt; omega), fun k hk => by rw [hg k hk]; omega, ?_⟩
      ·rw [hW2]; exact Blk.set_ h4 0 _
      ·rw [hg k hk] at e; omega
      ·exact (hcg.trans (h2.mono (fun _ h => h.elim))).trans (hcs.mono (fun k hk => .inr hk))
      ·exact (hmk.chg h2 (fun _ _ _ h => h)).chg hcs (fun D _ hD e => by omega)
      ·rw [hW2]; simp [World.setCell, hsz1]
     have hcap2 := hcap
     have hpbz : b0 + 5 ≤ pb := by have h1 := HI.out.2.2.1.size; have h2 := H1.out.1; omega
     by_cases hq1 : qc = 1
     case' pos =>
      subst hq1
      obtain rfl : n = 0 := by have := HG.out.2.2.2.2.1; rw [List.length_drop] at this; omega
      obtain ⟨hh1, hh2, hh3, hh4, hh5, hh6, hh7⟩ := hrest (.slice (some ⟨g, off, none⟩) 0 0) _ rfl (by
       have e : ks.drop (i + 1) = [] := List.eq_nil_of_length_eq_zero (by rw [List.length_drop]; omega)
       rw [e]; exact ⟨rfl, .inl ⟨rfl, _, rfl⟩⟩) (by rintro k ⟨off', n', cap', e, h⟩; cases e; omega)
      have HR := Lib.hid (And.intro hh1 (And.intro hh2 (And.intro hh3 (And.intro hh4 (And.intro hh5 hh6)))))
      have Hz := Lib.hid hh7
      have hvl : (Value.slice (some ⟨g, off, none⟩) 0 0).cells = #[Value.slice (some ⟨g, off, none⟩) 0 0] := rfl
      clear hh1 hh2 hh3 hh4 hh5 hh6 hh7 hrest hvl
      go_upto_region 18 with (fail)
      generalize W1.setCell ⟨b0 + 3, 0, none⟩ (.slice (some ⟨g, off, none⟩) 0 0) = W2 at HR Hz ⊢
      generalize Value.slice (some ⟨g, off, none⟩) 0 0 = vq2 at HR ⊢
     case' neg =>
      obtain ⟨hh1, hh2, hh3, hh4, hh5, hh6, hh7⟩ := hrest (.slice (some ⟨g, off + 2, none⟩) n (qc - 1)) _ rfl (by
       have e : (ks.drop (i + 1)).length = n := by rw [List.length_drop]; omega
       rw [e]
       obtain ⟨_, hdrop, hgh, hgs, hnc, hcm, hcells⟩ := HG.out
       rw [hdrop] at hnc hcells
       simp only [List.length_cons, e, flatP_cons] at hnc hcells
       refine ⟨by rw [flatP_length, e], .inr ⟨g, off + 2, qc - 1, cur, rfl, by omega, hgh, by omega, by omega, by omega, fun j hj => ?_⟩⟩
       have := hcells (j + 2) (by omega)
       rw [show off + 2 + j = off + (j + 2) by omega, this]
       rfl) (by rintro k ⟨off', n', cap', e, h⟩; cases e; rfl)
      have HR := Lib.hid (And.intro hh1 (And.intro hh2 (And.intro hh3 (And.intro hh4 (And.intro hh5 hh6)))))
      have Hz := Lib.hid hh7
      clear hh1 hh2 hh3 hh4 hh5 hh6 hh7 hrest
      go_upto_region 18 with (fail)
      generalize W1.setCell ⟨b0 + 3, 0, none⟩ (.slice (some ⟨g, off + 2, none⟩) n (qc - 1)) = W2 at HR Hz ⊢
      generalize Value.slice (some ⟨g, off + 2, none⟩) n (qc - 1) = vq2 at HR ⊢
     all_goals
      have hi2 : i + 1 ≤ 2000 := by omega
      clear HO HG H1 q1 f1 hcap hcap2 hnc hcm hsz1 h0 hn1 hn2 hbig
      try clear hq1
      obtain ⟨hst2, hcg2, hqo2, hmk2, hpk2, hqp2⟩ := HR.out
      have mk := HB.out.1.chg hcg2 (by omega)
      have m0 := mk.cell 0
      have m1 := mk.cell 1
      have m2 := mk.cell 2
      have m3 := mk.cell 3
      have x0 := hpk2.cell 0
      simp only [List.getElem?_toArray, List.getElem?_cons_zero, List.getElem?_cons_succ] at m0 m1 m2 m3 x0
      clear hst2 hcg2 hqo2 hmk2 hpk2 hqp2 mk
      go_wp2_with (go_at_call 169; refine (arcs_any _ _ _ _ _ _ _).mono ?_; rintro e w' ⟨rfl, hwe⟩)
      obtain ⟨W3, hW3⟩ : ∃ W3 : World, W3 = ((W2.alloc (.cells #[.int .i64 M.states, .int .i64 M.start, .slice fa M.final.length fc, .slice aa M.arcs.length ac] 96)).alloc (.cells #[.int .i64 p.st] 3)).alloc (.cells #[.int .i64 0] 3) := ⟨_, rfl⟩
      try rw [hwe]
      rw [← hW3]
      have g0 : Blk W3 W2.heap.size #[.int .i64 M.states, .int .i64 M.start, .slice fa M.final.length fc, .slice aa M.arcs.length ac] 96 := by rw [hW3]; exact ((Blk.new _ _ _).alloc _).alloc _
      have g1 : Blk W3 (W2.heap.size + 1) #[.int .i64 p.st] 3 := by rw [hW3]; have := (Blk.new (W2.alloc (.cells #[.int .i64 M.states, .int .i64 M.start, .slice fa M.final.length fc, .slice aa M.arcs.length ac] 96)) #[.int .i64 p.st] 3).alloc (.cells #[.int .i64 0] 3); simpa using this
      have g2 : Blk W3 (W2.heap.size + 2) #[.int .i64 0] 3 := by rw [hW3]; have := Blk.new ((W2.alloc (.cells #[.int .i64 M.states, .int .i64 M.start, .slice fa M.final.length fc, .slice aa M.arcs.length ac] 96)).alloc (.cells #[.int .i64 p.st] 3)) #[.int .i64 0] 3; simpa using this
      have hc23 : Chg (fun _ => False) W2 W3 := by rw [hW3]; exact ((Chg.alloc _ _ _).trans (Chg.alloc _ _ _)).trans (Chg.alloc _ _ _)
      have hs3 : W3.heap.size = W2.heap.size + 3 := by rw [hW3]; simp
      obtain ⟨o, ho⟩ : ∃ o, W2.heap.size = o := ⟨_, rfl⟩
      rw [ho] at g0 g1 g2 hs3 ⊢
      have HO3 := Lib.hid (And.intro ho hc23)
      clear hwe hW3 m0 m1 m2 m3 x0 hc23 ho
      refine wp_reframe (fun u => (List.toArray (α := Value) (.agg #[.int .i64 M.states, .int .i64 M.start, .slice fa M.final.length fc, .slice aa M.arcs.length ac] :: .map (some bf) :: .int .i64 c :: .pointer (some ⟨b0, 0, none⟩) :: u 4 :: u 5 :: .map none :: .bool false :: .pointer (some ⟨b0 + 2, 0, none⟩) :: .pointer (some ⟨b0 + 3, 0, none⟩) :: .pointer (some ⟨b0 + 4, 0, none⟩) :: u 11 :: u 12 :: u 13 :: .pointer (some ⟨pb, 0, none⟩) :: u 15 :: u 16 :: u 17 :: u 18 :: u 19 :: u 20 :: u 21 :: u 22 :: u 23 :: u 24 :: u 25 :: u 26 :: u 27 :: u 28 :: u 29 :: u 30 :: u 31 :: u 32 :: u 33 :: u 34 :: u 35 :: u 36 :: u 37 :: u 38 :: u 39 :: u 40 :: u 41 :: u 42 :: u 43 :: u 44 :: u 45 :: u 46 :: u 47 :: u 48 :: u 49 :: u 50 :: u 51 :: u 52 :: u 53 :: u 54 :: u 55 :: u 56 :: u 57 :: u 58 :: u 59 :: u 60 :: u 61 :: u 62 :: u 63 :: u 64 :: u 65 :: u 66 :: .func (.func 212) #[] #[.pointer (some ⟨o, 0, none⟩), .pointer (some ⟨o + 1, 0, none⟩), .pointer (some ⟨o + 2, 0, none⟩)] :: u 68 :: u 69 :: u 70 :: u 71 :: u 72 :: u 73 :: u 74 :: u 75 :: u 76 :: u 77 :: u 78 :: u 79 :: u 80 :: u 81 :: u 82 :: []))) rfl ?_
      clear u
      intro u
      obtain ⟨hst2, hcg2, hqo2, hmk2, hpk2, hqp2⟩ := HR.out
      obtain ⟨ho, hc23⟩ := HO3.out
      have hz2 := Hz.out
      have hop1 : o ≤ pb + 1 := by omega
      have hop2 : pb + 1 ≤ o := by omega
      have hs31 : W3.heap.size ≤ o + 3 := by omega
      have hs32 : o + 3 ≤ W3.heap.size := by omega
      have hst3 := hst2.chg hc23 (fun h => h) (fun h => h) (fun _ _ h => h)
      have hcg3 : Chg (fun k => k = b0 + 1 ∨ k = b0 + 3) W0 W3 := hcg2.trans (hc23.mono (fun _ h => h.elim))
      have hmk3 := hmk2.chg hc23 (fun _ _ _ h => h)
      have hpk3 := hpk2.chg hc23 (fun h => h)
      have hz30 := hcg3.size
      have hrow3 : RowAt W3 W3.heap.size aa (flat M.arcs) := (HB.out.2.2.2.1.chg hcg3 (by omega) (fun h0 q hq => by have := HF.out.2.2 (by rw [flat_length] at h0; omega) q hq; omega)).more (by omega)
      have hrowb : 0 < M.arcs.length → ∀ q, aa = some q → q.block < o := fun h0 q hq => by have := HF.out.2.2 h0 q hq; omega
      have hIt : IterAt W3 o (o + 1) (o + 2) M.arcs p.st 0 aa ac := ⟨g0.cell 3, g1.cell 0, g2.cell 0, hrow3⟩
      have hci := HI.out.1.open HG0.out
      have hpst : StateOk M.states p.st := hci.st p (List.mem_of_getElem? HG0.out)
      have hfn3 := HB.out.2.2.1.chg hcg3 (by omega)
      have htb3 := HB.out.2.1.chg hcg3 (by omega)
      have H3 := Lib.hid (And.intro hst3 (And.intro hcg3 (And.intro hqo2 (And.intro hmk3 (And.intro hpk3 (And.intro hqp2 (And.intro hIt (And.intro hci (And.intro hpst (And.intro hfn3 htb3))))))))))
      clear hst2 hcg2 hqo2 hmk2 hpk2 hqp2 hst3 hcg3 hmk3 hpk3 hrow3 hIt hci hpst hfn3 htb3 hc23 ho g0 g1 g2 hz2 hs3
      refine (wpIn_wide (n := 5)).1 ?_
      refine wpIn_rangeFunc_ownH (α := {x // x ∈ runA M.arcs p.st 0}) (encs := fun x => #[.agg #[.int .i64 x.1.frm, .int .i64 x.1.inp, .int .i64 x.1.out, .int .i64 x.1.to]]) (Kp := Keep4 o (o + 1) (o + 2) M.arcs aa) (S := fun ys => ys.map (·.1) = runA M.arcs p.st 0) (Sp := fun _ => True) (N := (runA M.arcs p.st 0).length) (w0 := W3)
       rfl (by omega) (gf := 212) (lb := #[.pointer (some ⟨o, 0, none⟩), .pointer (some ⟨o + 1, 0, none⟩), .pointer (some ⟨o + 2, 0, none⟩)]) rfl trivial (enters_of Tryz.func212 (by kernel_rfl) rfl)
       ?seq (fun h k => h.trans k) ?kb (Below.refl _ _) (fun _ => rfl)
       (fun pre W => ∃ (ks' : List Plc) (vq' : Value), CInv M (Setout M (· ∈ fs) c) L i p (pre.map (·.1)) ks' ∧ StAt W (b0 + 1) (b0 + 3) ks' (ks'.drop (i + 1)) vq' ∧ Chg (fun k => k = b0 + 1 ∨ k = b0 + 3 ∨ QOwn vq2 k) W3 W ∧ (∀ k, QOwn vq' k → QOwn vq2 k ∨ W3.heap.size ≤ k))
       (fun _ _ _ => False)
       ?hI ?hIx ?h0
       (fun x a' W => ∃ g4, a' = { tmps := (List.toArray (α := Value) (.agg #[.int .i64 M.states, .int .i64 M.start, .slice fa M.final.length fc, .slice aa M.arcs.length ac] :: .map (some bf) :: .int .i64 c :: .pointer (some ⟨b0, 0, none⟩) :: u 4 :: u 5 :: .map none :: .bool false :: .pointer (some ⟨b0 + 2, 0, none⟩) :: .pointer (some ⟨b0 + 3, 0, none⟩) :: .pointer (some ⟨b0 + 4, 0, none⟩) :: u 11 :: u 12 :: u 13 :: .pointer (some ⟨pb, 0, none⟩) :: .pointer (some ⟨g4, 0, none⟩) :: u 16 :: u 17 :: u 18 :: u 19 :: u 20 :: u 21 :: u 22 :: u 23 :: u 24 :: u 25 :: u 26 :: u 27 :: u 28 :: u 29 :: u 30 :: u 31 :: u 32 :: u 33 :: u 34 :: u 35 :: u 36 :: u 37 :: u 38 :: u 39 :: u 40 :: u 41 :: u 42 :: u 43 :: u 44 :: u 45 :: u 46 :: u 47 :: u 48 :: u 49 :: u 50 :: u 51 :: u 52 :: u 53 :: u 54 :: u 55 :: u 56 :: u 57 :: u 58 :: u 59 :: u 60 :: u 61 :: u 62 :: u 63 :: u 64 :: u 65 :: u 66 :: .func (.func 212) #[] #[.pointer (some ⟨o, 0, none⟩), .pointer (some ⟨o + 1, 0, none⟩), .pointer (some ⟨o + 2, 0, none⟩)] :: .agg #[.int .i64 x.1.frm, .int .i64 x.1.inp, .int .i64 x.1.out, .int .i64 x.1.to] :: u 69 :: u 70 :: u 71 :: u 72 :: u 73 :: u 74 :: u 75 :: u 76 :: u 77 :: u 78 :: u 79 :: u 80 :: u 81 :: u 82 :: [])), defers := [] } ∧ Blk W g4 #[.int .i64 x.1.frm, .int .i64 x.1.inp, .int .i64 x.1.out, .int .i64 x.1.to] 177) ?hAx ?assign ?body ?done ?stop
      case seq => exact arcs_seq 4 (by omega) o (o + 1) (o + 2) M.arcs p.st 0 aa ac HV.out.1.arcsLen HV.out.2.1 HV.out.2.2.1 HV.out.1.arcsInc (HV.out.2.2.2.2 _ _ H3.out.2.2.2.2.2.2.2.2.1 (by omega) (by omega)) W3 H3.out.2.2.2.2.2.2.1
      case kb =>
       intro W l ob ob' hl _ _ _
       exact ⟨World.putObj_heap_other (by omega), World.putObj_heap_other (by omega), World.putObj_heap_other (by omega), fun h0 q hq => World.putObj_heap_other (by have := hrowb h0 q hq; omega)⟩
      case hI =>
       rintro pre X Y row ⟨ks', vq', h1, h2, h3, h4⟩ hg hr
       exact ⟨ks', vq', h1, h2.grown hg (fun r e => (hr r e).2) (fun r e => by have := (hr r e).1; omega), h3.grown hg (fun r e => (hr r e).1), h4⟩
      case hIx => rintro cc pre X Y row h hg hr; exact h
      case h0 => exact ⟨ks, vq2, H3.out.2.2.2.2.2.2.2.1, H3.out.1, Chg.refl _ _, fun k hk => .inl hk⟩
      case hAx =>
       rintro x a' _ X Y row ⟨g4, rfl, hg0⟩ hg hr
       exact ⟨g4, rfl, ownBlk hg0 hg (fun r e => (hr r e).2)⟩
      case assign =>
       rintro l pre x W K ⟨ks', vq', h1, h2, h3, h4⟩ hK
       have hz3 := h3.size
       have hqp3 := H3.out.2.2.2.2.2.1
       gi_wp2
       refine hK _ _ ?_ ?_ ⟨ks', vq', h1, h2.chg (Chg.alloc (fun _ => False) _ _) (fun h => h) (fun h => h) (fun _ _ h => h), h3.trans (Chg.alloc _ _ _), h4⟩ ⟨_, rfl, Blk.new _ _ _⟩
       ·exact keepsFrom_chg (S := fun _ => False) _ (Chg.alloc _ _ _) (fun _ h => h.elim)
       ·exact (H3.out.2.2.2.2.2.2.1.keep ⟨h3.block o (by omega) (fun h => by rcases h with h | h | h; omega; omega; have := hqp3 _ h; omega), h3.block (o + 1) (by omega) (fun h => by rcases h with h | h | h; omega; omega; have := hqp3 _ h; omega), h3.block (o + 2) (by omega) (fun h => by rcases h with h | h | h; omega; omega; have := hqp3 _ h; omega), fun h0 q hq => h3.block q.block (by have := hrowb h0 q hq; omega) (fun h => by
          have hq0 := HF.out.2.2 h0 q hq
          rcases h with h | h | h
          ·omega
          ·omega
          ·have := H3.out.2.2.1 _ h; omega)⟩).below ((Below.refl _ W).alloc (Nat.le_refl _) _)
      case body =>
       rintro l pre ⟨x, hxr⟩ a' W hl hrec ⟨ks', vq', h1, h2, h3, h4⟩ ⟨g4, rfl, hg4⟩ hlt
       dsimp only at hg4 ⊢
       have hxv := HV.out.2.2.2.1 x (mem_runA.1 hxr).1
       have hzW := h3.size
       have hqp3 := H3.out.2.2.2.2.2.1
       have hq0 : ∀ k, QOwn vq' k → W0.heap.size ≤ k ∧ (k < pb ∨ W3.heap.size ≤ k) := fun k hk => by
        rcases h4 k hk with h | h
        ·exact ⟨H3.out.2.2.1 k h, .inl (hqp3 k h)⟩
        ·exact ⟨by omega, .inr h⟩
       have hpkW := H3.out.2.2.2.2.1.chg h3 (fun h => by rcases h with h | h | h; omega; omega; have := hqp3 _ h; omega)
       have hfnW := H3.out.2.2.2.2.2.2.2.2.2.1.chg h3 (fun h => by rcases h with h | h | h; omega; omega; have := H3.out.2.2.1 _ h; omega)
       have htbW := H3.out.2.2.2.2.2.2.2.2.2.2.chg h3 (fun h => by rcases h with h | h | h; omega; omega; have := H3.out.2.2.1 _ h; omega)
       have c0' := hfnW.cell 0
       have c1' := hg4.cell 3
       have c2' := hpkW.cell 1
       have c3' := hg4.cell 2
       simp only [List.getElem?_toArray, List.getElem?_cons_zero, List.getElem?_cons_succ] at c0' c1' c2' c3'
       have Hh := Lib.hid (And.intro h1 (And.intro h2 (And.intro h3 (And.intro h4 (And.intro hg4 (And.intro hpkW (And.intro hfnW htbW)))))))
       clear h1 h2 h3 h4 hg4 hpkW hfnW htbW
       gi_wp2
       refine wpIn_region_held (S := fun w' => w'.cell? ⟨b0 + 4, 0, none⟩ = some (.func (.func 170) #[] #[.pointer (some ⟨b0 + 2, 0, none⟩), .pointer (some ⟨b0 + 3, 0, none⟩)]) ∧ w'.cell? ⟨g4, 3, none⟩ = some (.int .i64 x.to) ∧ w'.cell? ⟨pb, 1, none⟩ = some (.string p.tx) ∧ w'.cell? ⟨g4, 2, none⟩ = some (.int .i64 x.out)) (by kernel_rfl) (by kernel_rfl) (by rintro ⟨_, _, h⟩; exact h) ?_
       have hS : W.drew.cell? ⟨b0 + 4, 0, none⟩ = some (.func (.func 170) #[] #[.pointer (some ⟨b0 + 2, 0, none⟩), .pointer (some ⟨b0 + 3, 0, none⟩)]) ∧ W.drew.cell? ⟨g4, 3, none⟩ = some (.int .i64 x.to) ∧ W.drew.cell? ⟨pb, 1, none⟩ = some (.string p.tx) ∧ W.drew.cell? ⟨g4, 2, none⟩ = some (.int .i64 x.out) := ⟨c0', c1', c2', c3'⟩
       refine wpAnyH_take (i := 0) (v := .func (.func 170) #[] #[.pointer (some ⟨b0 + 2, 0, none⟩), .pointer (some ⟨b0 + 3, 0, none⟩)]) rfl (by kernel_rfl) (by kernel_rfl) (by kernel_rfl) (fun _ _ _ h => h) (Or.inl ⟨by rfl, ?_⟩) (by assumption) ?_
       ·rintro w' ⟨s0, s1, s2, s3⟩
        go_simp
       try simp only [Act.put, List.setIfInBounds_toArray]
       refine wpAnyH_take (i := 1) (v := .pointer (some ⟨g4, 3, none⟩)) rfl (by kernel_rfl) (by kernel_rfl) (by kernel_rfl) (fun _ _ _ h => h) (Or.inl ⟨by rfl, ?_⟩) (by assumption) ?_
       ·rintro w' ⟨s0, s1, s2, s3⟩
        go_simp
       try simp only [Act.put]
       refine wpAnyH_take (i := 2) (v := .int .i64 x.to) rfl (by kernel_rfl) (by kernel_rfl) (by kernel_rfl) (fun _ _ _ h => h) (Or.inl ⟨by rfl, ?_⟩) (by assumption) ?_
       ·rintro w' ⟨s0, s1, s2, s3⟩
        go_simp
       try simp only [Act.put]
       refine wpAnyH_take (i := 3) (v := .pointer (some ⟨pb, 1, none⟩)) rfl (by kernel_rfl) (by kernel_rfl) (by kernel_rfl) (fun _ _ _ h => h) (Or.inl ⟨by rfl, ?_⟩) (by assumption) ?_
       ·rintro w' ⟨s0, s1, s2, s3⟩
        go_simp
       try simp only [Act.put]
       refine wpAnyH_take (i := 4) (v := .string p.tx) rfl (by kernel_rfl) (by kernel_rfl) (by kernel_rfl) (fun _ _ _ h => h) (Or.inl ⟨by rfl, ?_⟩) (by assumption) ?_
       ·rintro w' ⟨s0, s1, s2, s3⟩
        go_simp
       try simp only [Act.put]
       refine wpAnyH_take (i := 5) (v := .pointer (some ⟨g4, 2, none⟩)) rfl (by kernel_rfl) (by kernel_rfl) (by kernel_rfl) (fun _ _ _ h => h) (Or.inl ⟨by rfl, ?_⟩) (by assumption) ?_
       ·rintro w' ⟨s0, s1, s2, s3⟩
        go_simp
       try simp only [Act.put]
       refine wpAnyH_take (i := 6) (v := .int .i64 x.out) rfl (by kernel_rfl) (by kernel_rfl) (by kernel_rfl) (fun _ _ _ h => h) (Or.inl ⟨by rfl, ?_⟩) (by assumption) ?_
       ·rintro w' ⟨s0, s1, s2, s3⟩
        go_simp
       try simp only [Act.put]
       refine wpAnyH_ready (rs := [7]) (by kernel_rfl) (by simp) (AllReadyH.cons (i := 7) rfl (fun K hK => ?_) AllReadyH.nil)
       simp only [Act.put, List.getElem_toArray, List.getElem_cons_succ, List.getElem_cons_zero, List.setIfInBounds_toArray, List.set_cons_zero, List.set_cons_succ]
       go_simp
       have hi5 := Hh.out.1
       have hps5 : p.tx.size ≤ 1000000 := by have := hi5.psize; omega
       refine (after_any p.tx x.out (HV.out.1.arcs x (mem_runA.1 hxr).1).2.2.2 hps5 _).mono ?_
       rintro e w5 ⟨rfl, hb5⟩
       have hS5 : w5.cell? ⟨b0 + 4, 0, none⟩ = some (.func (.func 170) #[] #[.pointer (some ⟨b0 + 2, 0, none⟩), .pointer (some ⟨b0 + 3, 0, none⟩)]) ∧ w5.cell? ⟨g4, 3, none⟩ = some (.int .i64 x.to) ∧ w5.cell? ⟨pb, 1, none⟩ = some (.string p.tx) ∧ w5.cell? ⟨g4, 2, none⟩ = some (.int .i64 x.out) :=
        ⟨(hb5.cell (p := ⟨b0 + 4, 0, none⟩) (lt_of_cell hS.1)).trans hS.1, (hb5.cell (p := ⟨g4, 3, none⟩) (lt_of_cell hS.2.1)).trans hS.2.1, (hb5.cell (p := ⟨pb, 1, none⟩) (lt_of_cell hS.2.2.1)).trans hS.2.2.1, (hb5.cell (p := ⟨g4, 2, none⟩) (lt_of_cell hS.2.2.2)).trans hS.2.2.2⟩
       have hc5 : Chg (fun _ => False) W w5 := (Chg.drewN (fun _ => False) W 1).trans (Chg.of_below _ hb5)
       have hst5 := Hh.out.2.1.chg hc5 (fun h => h) (fun h => h) (fun _ _ h => h)
       have ht5 := (Hh.out.2.2.2.2.2.2.2.chg hc5 (fun h => h)).cell 0
       simp only [List.getElem?_toArray, List.getElem?_cons_zero] at ht5
       refine hK.out _ _ hS5 (fun _ => ?_)
       clear hK K hS c0' c1' c2' c3' hb5
       refine wpAnyH_take (i := 8) (v := .agg #[.int .i64 x.to, .string (afterB p.tx x.out)]) rfl (by kernel_rfl) (by kernel_rfl) (by kernel_rfl) (fun _ _ _ h => h) (Or.inl ⟨by rfl, ?_⟩) (by assumption) ?_
       ·rintro w' ⟨s0, s1, s2, s3⟩
        go_simp
       refine wpAnyH_ready (rs := [9]) (by kernel_rfl) (by simp) (AllReadyH.cons (i := 9) rfl (fun K hK => ?_) AllReadyH.nil)
       simp only [Act.put, List.getElem_toArray, List.getElem_cons_succ, List.getElem_cons_zero, List.setIfInBounds_toArray, List.set_cons_zero, List.set_cons_succ]
       go_simp
       have hlen5 : (ks'.drop (i + 1)).length ≤ 1000000000 := by
        have h1 := hi5.len
        have h2 : pre.length ≤ 20000 := by have := runA_len M.arcs p.st 0; have := HV.out.1.arcsLen; omega
        simp only [List.length_map] at h1
        rw [List.length_drop]; omega
       refine (reach_any (b0 + 2) (b0 + 1) (b0 + 3) ks' (ks'.drop (i + 1)) vq' (stepA p x) w5 ht5 hst5 (by omega) ⟨by omega, by omega⟩ hlen5).mono ?_
       rintro e w6 ⟨rfl, vq6, hst6, hc6, hq6⟩
       have hgt : ∀ k, QOwn vq' k → k ≠ g4 := fun k hk e => by
        obtain ⟨cur', hb'⟩ := Hh.out.2.1.row.cells hk
        have h5 := Hh.out.2.2.2.2.1
        unfold Blk at hb' h5
        rw [e, h5] at hb'
        injection hb' with h1
        injection h1 with _ h2
        exact absurd h2 (by decide)
       have hg4l := Hh.out.2.2.2.2.1.lt
       have hg4b : g4 ≠ b0 + 3 := fun e => by
        have h5 := Hh.out.2.2.2.2.1
        have h6 := Hh.out.2.1.box
        unfold Blk at h5 h6
        rw [e, h6] at h5
        injection h5 with h1
        injection h1 with _ h2
        exact absurd h2 (by decide)
       have hg4m : g4 ≠ b0 + 1 := fun e => by
        have h5 := Hh.out.2.2.2.2.1
        obtain ⟨es, cl, hm, _⟩ := Hh.out.2.1.set
        unfold Blk at h5
        rw [e, hm] at h5; cases h5
       have hnS4 : ¬ (b0 + 4 = b0 + 1 ∨ b0 + 4 = b0 + 3 ∨ QOwn vq' (b0 + 4)) := fun h => by rcases h with h | h | h; omega; omega; have := (hq0 _ h).1; omega
       have hnSp : ¬ (pb = b0 + 1 ∨ pb = b0 + 3 ∨ QOwn vq' pb) := fun h => by rcases h with h | h | h; omega; omega; have := (hq0 _ h).2; omega
       have hnSg : ¬ (g4 = b0 + 1 ∨ g4 = b0 + 3 ∨ QOwn vq' g4) := fun h => by rcases h with h | h | h; exact hg4m h; exact hg4b h; exact hgt _ h rfl
       refine hK.out _ _ ⟨(heap_cell (hc6.block _ (lt_of_cell hS5.1) hnS4) 0).trans hS5.1, (heap_cell (hc6.block _ (lt_of_cell hS5.2.1) hnSg) 3).trans hS5.2.1, (heap_cell (hc6.block _ (lt_of_cell hS5.2.2.1) hnSp) 1).trans hS5.2.2.1, (heap_cell (hc6.block _ (lt_of_cell hS5.2.2.2) hnSg) 2).trans hS5.2.2.2⟩ (fun _ => ?_)
       clear hK K
       refine wpAnyH_done (by kernel_rfl) ?_ _
       have hcW6 : Chg (fun k => k = b0 + 1 ∨ k = b0 + 3 ∨ QOwn vq' k) W w6 := (hc5.mono (fun _ h => h.elim)).trans hc6
       obtain ⟨h1, h2, h3, h4, _⟩ := Hh.out
       have hz56 := hc5.size
       refine ⟨keepsFrom_chg2 _ hcW6 (fun k hk => ?_), ⟨hcW6.block o (by omega) (fun h => by rcases h with h | h | h; omega; omega; have := (hq0 _ h).2; omega), hcW6.block (o + 1) (by omega) (fun h => by rcases h with h | h | h; omega; omega; have := (hq0 _ h).2; omega), hcW6.block (o + 2) (by omega) (fun h => by rcases h with h | h | h; omega; omega; have := (hq0 _ h).2; omega), fun hz q hq => hcW6.block q.block (by have := hrowb hz q hq; omega) (fun h => by
         have hq00 := HF.out.2.2 hz q hq
         rcases h with h | h | h
         ·omega
         ·omega
         ·have := (hq0 _ h).1; omega)⟩, addP ks' (stepA p x), vq6, ?_, ?_, h3.trans_if hcW6 (fun k hk hkl => ?_), fun k hk => ?_⟩
       ·rcases hk with rfl | rfl | h
        ·exact .inl (by omega)
        ·exact .inl (by omega)
        ·obtain ⟨cur', hb'⟩ := h2.row.cells h
         exact .inr ⟨_, _, hb'⟩
       ·rw [List.map_append]; exact h1.step hxr hxv
       ·rw [← drop_addP (by have := (List.getElem?_eq_some_iff.1 h1.self).1; omega)]; exact hst6
       ·rcases hk with h | h | h
        ·exact .inl h
        ·exact .inr (.inl h)
        ·rcases h4 k h with h | h
         ·exact .inr (.inr h)
         ·omega
       ·rcases hq6 k hk with h | h
        ·exact h4 k h
        ·exact .inr (by omega)
      case done =>
       rintro D ys W' hD hys ⟨ks', vq', h1, h2, h3, h4⟩ hK
       rw [hys] at h1
       have hB' := h1.close HV.out.1.arcsLen
       have hcg' : Chg (fun k => k = b0 + 1 ∨ k = b0 + 3) W0 W' := H3.out.2.1.trans_if h3 (fun k hk hkl => by
        rcases hk with h | h | h
        ·exact .inl h
        ·exact .inr h
        ·have := H3.out.2.2.1 k h; omega)
       have hqo' : ∀ k, QOwn vq' k → W0.heap.size ≤ k := fun k hk => by
        rcases h4 k hk with h | h
        ·exact H3.out.2.2.1 k h
        ·omega
       have hmk' : MarksOk ({ target := .collected D, args := #[] } :: ds) W' W0.heap.size := H3.out.2.2.2.1.cons h3 (fun E hE hE0 h => by
        rcases h with h | h | h
        ·omega
        ·omega
        ·obtain ⟨cur', hb'⟩ := H3.out.1.row.cells h
         unfold Blk at hb'
         rw [hb'] at hE; cases hE) hD hz30 hK
       exact ⟨2001 - (i + 1), by omega, fun k => if k = 14 then .pointer (some ⟨pb, 0, none⟩) else if k = 67 then .func (.func 212) #[] #[.pointer (some ⟨o, 0, none⟩), .pointer (some ⟨o + 1, 0, none⟩), .pointer (some ⟨o + 2, 0, none⟩)] else u k, _, ks', i + 1, vq', rfl, rfl, hi2, hB', h2, hcg', hqo', hmk'⟩
      case stop => rintro D cc pre W hD _ h; exact h.elim
   ·have d2 : decide ((ks.length : Int) ≤ 2000) = false := decide_eq_false (by omega)
    go_wp2_with fail
    refine HO.out _ ?b2 ?hb2 (fun h => absurd h hbig) ?e62 ?e72
    case e62 => exact rfl
    case e72 => exact rfl
    case hb2 => simp [hbig]
 have HP2 := Lib.hid hP2
 have hs01 : W0.heap.size ≤ b0 + 5 := by omega
 have hs02 : b0 + 5 ≤ W0.heap.size := by omega
 clear hP2 HK1 hs0
 have hpairs : (fs.map plcV).map (fun v => (v, Value.bool true)) = fs.map plcP := by rw [List.map_map]; rfl
 by_cases hc : c = 0
 ·have d0 : (c == 0) = true := by simp [hc]
  have Hc := Lib.hid hc
  clear hc
  obtain ⟨ro, hrng, hR⟩ := MapIs.range (P := Tryz.prog) HB.out.2.2.2.2.1 Tryz.underlying161
  rw [hpairs] at hR
  have HR := Lib.hid hR
  clear hR hpairs
  go_wp2_with fail
  refine HK0.out _ _ ?_
  go_wp2_with fail
  clear hrng HK0
  obtain ⟨W1, hW1⟩ : ∃ W1 : World, W1 = W0.alloc ro := ⟨_, rfl⟩
  rw [← hW1]
  have hc01 : Chg (fun _ => False) W0 W1 := by rw [hW1]; exact Chg.alloc _ _ _
  have hR1 := HR.out
  rw [← hW1] at hR1
  have hst1 := HB.out.2.2.2.2.2.chg hc01 (fun h => h) (fun h => h) (fun _ _ h => h)
  clear hW1
  refine wp_reframe (fun u => (List.toArray (α := Value) (.agg #[.int .i64 M.states, .int .i64 M.start, .slice fa M.final.length fc, .slice aa M.arcs.length ac] :: .map (some bf) :: .int .i64 c :: .pointer (some ⟨b0, 0, none⟩) :: u 4 :: u 5 :: .map none :: .bool false :: .pointer (some ⟨b0 + 2, 0, none⟩) :: .pointer (some ⟨b0 + 3, 0, none⟩) :: .pointer (some ⟨b0 + 4, 0, none⟩) :: u 11 :: u 12 :: u 13 :: u 14 :: u 15 :: u 16 :: u 17 :: u 18 :: u 19 :: u 20 :: .pointer (some ⟨W0.heap.size, 0, none⟩) :: u 22 :: u 23 :: u 24 :: u 25 :: u 26 :: u 27 :: u 28 :: u 29 :: u 30 :: u 31 :: u 32 :: u 33 :: u 34 :: u 35 :: u 36 :: u 37 :: u 38 :: u 39 :: u 40 :: u 41 :: u 42 :: u 43 :: u 44 :: u 45 :: u 46 :: u 47 :: u 48 :: u 49 :: u 50 :: u 51 :: u 52 :: u 53 :: u 54 :: u 55 :: u 56 :: u 57 :: u 58 :: u 59 :: u 60 :: u 61 :: u 62 :: u 63 :: u 64 :: u 65 :: u 66 :: u 67 :: u 68 :: u 69 :: u 70 :: u 71 :: u 72 :: u 73 :: u 74 :: u 75 :: u 76 :: u 77 :: u 78 :: u 79 :: u 80 :: u 81 :: u 82 :: []))) rfl ?_
  intro u
  refine wp_loop_ghost (fun m a W => ∃ (u : Nat → Value) (rest ks : List Plc) (vq : Value), a = { tmps := (List.toArray (α := Value) (.agg #[.int .i64 M.states, .int .i64 M.start, .slice fa M.final.length fc, .slice aa M.arcs.length ac] :: .map (some bf) :: .int .i64 c :: .pointer (some ⟨b0, 0, none⟩) :: u 4 :: u 5 :: .map none :: .bool false :: .pointer (some ⟨b0 + 2, 0, none⟩) :: .pointer (some ⟨b0 + 3, 0, none⟩) :: .pointer (some ⟨b0 + 4, 0, none⟩) :: u 11 :: u 12 :: u 13 :: u 14 :: u 15 :: u 16 :: u 17 :: u 18 :: u 19 :: u 20 :: .pointer (some ⟨W0.heap.size, 0, none⟩) :: u 22 :: u 23 :: u 24 :: u 25 :: u 26 :: u 27 :: u 28 :: u 29 :: u 30 :: u 31 :: u 32 :: u 33 :: u 34 :: u 35 :: u 36 :: u 37 :: u 38 :: u 39 :: u 40 :: u 41 :: u 42 :: u 43 :: u 44 :: u 45 :: u 46 :: u 47 :: u 48 :: u 49 :: u 50 :: u 51 :: u 52 :: u 53 :: u 54 :: u 55 :: u 56 :: u 57 :: u 58 :: u 59 :: u 60 :: u 61 :: u 62 :: u 63 :: u 64 :: u 65 :: u 66 :: u 67 :: u 68 :: u 69 :: u 70 :: u 71 :: u 72 :: u 73 :: u 74 :: u 75 :: u 76 :: u 77 :: u 78 :: u 79 :: u 80 :: u 81 :: u 82 :: [])), defers := [] } ∧ m = rest.length ∧ A0 fs rest ks ∧ StAt W (b0 + 1) (b0 + 3) ks ks vq ∧ RangeIs W bf W0.heap.size OkPlc (fs.map plcP) (rest.map plcP) ∧ Chg (fun k => k = b0 + 1 ∨ k = b0 + 3) W0 W ∧ (∀ k, QOwn vq k → W0.heap.size ≤ k)) fs.length
   ⟨u, fs, [], _, rfl, rfl, A0.start fs, hst1, hR1, hc01.mono (fun _ h => h.elim), fun k hk => by obtain ⟨_, _, _, e, h⟩ := hk; cases e⟩ ?_
  clear u hst1 hR1 hc01 HR W1
  rintro m a W ⟨u, rest, ks, vq, rfl, rfl, hA, hst, hrg, hcg, hqo⟩
  have hszW := hcg.size
  rcases RangeIs.next (P := Tryz.prog) hrg 0 with ⟨hl, hrun⟩ | ⟨A', pr, B', w', hl, hrun, hrg', hg', hs', hent⟩
  ·have hnx : ∀ ty, (Instr.next (.pointer (some ⟨W0.heap.size, 0, none⟩)) false ty).run Tryz.prog W = .ok (.tuple #[.bool false]) W := fun _ => hrun
   have hz : rest = [] := List.map_eq_nil_iff.1 hl
   subst hz
   have HA := Lib.hid (And.intro hA (And.intro hst (And.intro hcg hqo)))
   clear hl hrun hA hst hcg hqo hrg
   go_wp2_with fail
   refine HP2.out _ _ ?_
   have hph : Ph1 M (Setout M (· ∈ fs) c) L ks := by rw [Hc.out]; exact HA.out.1.finish HF.out.1 HF.out.2.1 hfl2
   exact ⟨fun k => if k = 21 then .pointer (some ⟨W0.heap.size, 0, none⟩) else if k = 22 then .tuple #[.bool false] else if k = 23 then .bool false else u k, [], ks, vq, rfl, hph, HA.out.2.1, HA.out.2.2.1, HA.out.2.2.2, MarksOk.nil _ _⟩
  ·obtain ⟨ra, p, rb, hrs, rfl, rfl, rfl⟩ := split_plc hl
   have hnx : ∀ ty, (Instr.next (.pointer (some ⟨W0.heap.size, 0, none⟩)) false ty).run Tryz.prog W = .ok (.tuple #[.bool true, .agg #[.int .i64 p.st, .string p.tx], .bool true]) w' := fun _ => hrun
   have hent' : (Instr.entry (.pointer (some ⟨W0.heap.size, 0, none⟩))).run Tryz.prog w' = .ok (.tuple #[.agg #[.int .i64 p.st, .string p.tx], .bool true]) w' := hent
   subst hrs
   have HA := Lib.hid (And.intro hA (And.intro hst (And.intro hcg (And.intro hqo (And.intro hrg (And.intro hrg' (And.intro hg' hs')))))))
   clear hl hent hrun hA hst hcg hqo hrg hrg' hg' hs'
   go_upto_region 8 with (fail)
   obtain ⟨hA, hst, hcg, hqo, hrg, hrg', hg', hs'⟩ := HA.out
   have hrbo : ∀ r, some W0.heap.size = some r → ∃ o : Obj, W.heap[r]? = some o ∧ o.isCells = false := fun r e => by
    cases e
    obtain ⟨_, _, _, _, _, _, _, _, _, h5, _⟩ := hrg
    exact ⟨_, h5, rfl⟩
   have hst1 := hst.grown hg' hrbo (fun r e => by cases e; omega)
   have hcg1 := hcg.grown hg' (fun r e => by cases e; omega)
   obtain ⟨W2, hW2⟩ : ∃ W2 : World, W2 = w'.alloc (.cells #[.int .i64 p.st, .string p.tx] 165) := ⟨_, rfl⟩
   rw [← hW2]
   have hpk : Blk W2 w'.heap.size #[.int .i64 p.st, .string p.tx] 165 := by rw [hW2]; exact Blk.new _ _ _
   have hc2 : Chg (fun _ => False) w' W2 := by rw [hW2]; exact Chg.alloc _ _ _
   have hst2 := hst1.chg hc2 (fun h => h) (fun h => h) (fun _ _ h => h)
   have hcg2 : Chg (fun k => k = b0 + 1 ∨ k = b0 + 3) W0 W2 := hcg1.trans (hc2.mono (fun _ h => h.elim))
   have hrg2 : RangeIs W2 bf W0.heap.size OkPlc (fs.map plcP) (ra.map plcP ++ rb.map plcP) := hrg'.blocks (hc2.block _ (MapIs.lt hrg'.isMap) (fun h => h)) (hc2.block _ hrg'.lt (fun h => h))
   have f0 := (HB.out.2.2.1.chg hcg2 (by omega)).cell 0
   have t0 := (HB.out.2.1.chg hcg2 (by omega)).cell 0
   have x0 := hpk.cell 0
   have x1 := hpk.cell 1
   simp only [List.getElem?_toArray, List.getElem?_cons_zero, List.getElem?_cons_succ] at f0 t0 x0 x1
   have hlk : ks.length ≤ 1000000000 := by have := hA.len; omega
   have hQ := reach_any (b0 + 2) (b0 + 1) (b0 + 3) ks ks vq p W2 t0 hst2 (by omega) ⟨by omega, by omega⟩ hlk
   have H2 := Lib.hid (And.intro hQ (And.intro hst2 (And.intro hcg2 (And.intro hrg2 (And.intro hA hqo)))))
   have hz2 := hcg2.size
   clear hQ hst2 hcg2 hrg2 hA hqo hst hcg hrg hrg' hg' hst1 hcg1 hpk hc2 hW2 hrbo HA hs'
   clear hnx hent'
   go_wp2_with (go_at_call 170; refine H2.out.1.mono ?_; rintro e w6 ⟨rfl, vq6, hst6, hc6, hq6⟩)
   obtain ⟨_, hst2, hcg2, hrg2, hA, hqo⟩ := H2.out
   have hnrb : ¬ QOwn vq W0.heap.size := fun h => by
    obtain ⟨cur, hb⟩ := hst2.row.cells h
    obtain ⟨_, _, _, _, _, _, _, _, _, h5, _⟩ := hrg2
    unfold Blk at hb
    rw [hb] at h5; cases h5
   rw [addP_eq] at hst6
   refine ⟨(ra ++ rb).length, by simp, fun k => if k = 11 then .pointer (some ⟨w'.heap.size, 0, none⟩) else if k = 22 then .tuple #[.bool true, .agg #[.int .i64 p.st, .string p.tx], .bool true] else if k = 23 then .bool true else if k = 24 then .tuple #[.agg #[.int .i64 p.st, .string p.tx], .bool true] else if k = 25 then .agg #[.int .i64 p.st, .string p.tx] else if k = 26 then .func (.func 170) #[] #[.pointer (some ⟨b0 + 2, 0, none⟩), .pointer (some ⟨b0 + 3, 0, none⟩)] else if k = 27 then .agg #[.int .i64 p.st, .string p.tx] else if k = 28 then .tuple #[] else u k, ra ++ rb, addP ks p, vq6, rfl, rfl, hA.step, hst6, ?_, hcg2.trans_if hc6 (fun k hk hkl => ?_), fun k hk => ?_⟩
   ·rw [List.map_append]
    exact hrg2.blocks (hc6.block _ (MapIs.lt hrg2.isMap) (fun h => by rcases h with h | h | h; omega; omega; have := hqo _ h; omega)) (hc6.block _ hrg2.lt (fun h => by rcases h with h | h | h; omega; omega; exact hnrb h))
   ·rcases hk with h | h | h
    ·exact .inl h
    ·exact .inr h
    ·have := hqo k h; omega
   ·rcases hq6 k hk with h | h
    ·exact hqo k h
    ·omega
 ·have d0 : (c == 0) = false := by simp [hc]
  have Hc := Lib.hid hc
  clear hc
  obtain ⟨ro, hrng, hR⟩ := MapIs.range (P := Tryz.prog) HB.out.2.2.2.2.1 Tryz.underlying161
  rw [hpairs] at hR
  have HR0 := Lib.hid hR
  clear hR hpairs
  go_wp2_with fail
  refine HK0.out _ _ ?_
  go_wp2_with fail
  clear hrng HK0
  obtain ⟨W1, hW1⟩ : ∃ W1 : World, W1 = W0.alloc ro := ⟨_, rfl⟩
  rw [← hW1]
  have hc01 : Chg (fun _ => False) W0 W1 := by rw [hW1]; exact Chg.alloc _ _ _
  have hR1 := HR0.out
  rw [← hW1] at hR1
  have hst1 := HB.out.2.2.2.2.2.chg hc01 (fun h => h) (fun h => h) (fun _ _ h => h)
  clear hW1
  refine wp_reframe (fun u => (List.toArray (α := Value) (.agg #[.int .i64 M.states, .int .i64 M.start, .slice fa M.final.length fc, .slice aa M.arcs.length ac] :: .map (some bf) :: .int .i64 c :: .pointer (some ⟨b0, 0, none⟩) :: u 4 :: u 5 :: .map none :: .bool false :: .pointer (some ⟨b0 + 2, 0, none⟩) :: .pointer (some ⟨b0 + 3, 0, none⟩) :: .pointer (some ⟨b0 + 4, 0, none⟩) :: u 11 :: u 12 :: u 13 :: u 14 :: u 15 :: u 16 :: u 17 :: u 18 :: u 19 :: u 20 :: u 21 :: u 22 :: u 23 :: u 24 :: u 25 :: u 26 :: u 27 :: u 28 :: u 29 :: .pointer (some ⟨W0.heap.size, 0, none⟩) :: u 31 :: u 32 :: u 33 :: u 34 :: u 35 :: u 36 :: u 37 :: u 38 :: u 39 :: u 40 :: u 41 :: u 42 :: u 43 :: u 44 :: u 45 :: u 46 :: u 47 :: u 48 :: u 49 :: u 50 :: u 51 :: u 52 :: u 53 :: u 54 :: u 55 :: u 56 :: u 57 :: u 58 :: u 59 :: u 60 :: u 61 :: u 62 :: u 63 :: u 64 :: u 65 :: u 66 :: u 67 :: u 68 :: u 69 :: u 70 :: u 71 :: u 72 :: u 73 :: u 74 :: u 75 :: u 76 :: u 77 :: u 78 :: u 79 :: u 80 :: u 81 :: u 82 :: []))) rfl ?_
  intro u
  refine wp_loop_ghost (fun m a W => ∃ (u : Nat → Value) (ds : List Deferred) (rest ks : List Plc) (vq : Value), a = { tmps := (List.toArray (α := Value) (.agg #[.int .i64 M.states, .int .i64 M.start, .slice fa M.final.length fc, .slice aa M.arcs.length ac] :: .map (some bf) :: .int .i64 c :: .pointer (some ⟨b0, 0, none⟩) :: u 4 :: u 5 :: .map none :: .bool false :: .pointer (some ⟨b0 + 2, 0, none⟩) :: .pointer (some ⟨b0 + 3, 0, none⟩) :: .pointer (some ⟨b0 + 4, 0, none⟩) :: u 11 :: u 12 :: u 13 :: u 14 :: u 15 :: u 16 :: u 17 :: u 18 :: u 19 :: u 20 :: u 21 :: u 22 :: u 23 :: u 24 :: u 25 :: u 26 :: u 27 :: u 28 :: u 29 :: .pointer (some ⟨W0.heap.size, 0, none⟩) :: u 31 :: u 32 :: u 33 :: u 34 :: u 35 :: u 36 :: u 37 :: u 38 :: u 39 :: u 40 :: u 41 :: u 42 :: u 43 :: u 44 :: u 45 :: u 46 :: u 47 :: u 48 :: u 49 :: u 50 :: u 51 :: u 52 :: u 53 :: u 54 :: u 55 :: u 56 :: u 57 :: u 58 :: u 59 :: u 60 :: u 61 :: u 62 :: u 63 :: u 64 :: u 65 :: u 66 :: u 67 :: u 68 :: u 69 :: u 70 :: u 71 :: u 72 :: u 73 :: u 74 :: u 75 :: u 76 :: u 77 :: u 78 :: u 79 :: u 80 :: u 81 :: u 82 :: [])), defers := ds } ∧ m = rest.length ∧ A1 M c L fs rest ks ∧ StAt W (b0 + 1) (b0 + 3) ks ks vq ∧ RangeIs W bf W0.heap.size OkPlc (fs.map plcP) (rest.map plcP) ∧ Chg (fun k => k = b0 + 1 ∨ k = b0 + 3) W0 W ∧ (∀ k, QOwn vq k → W0.heap.size ≤ k) ∧ MarksOk ds W W0.heap.size) fs.length
   ⟨u, [], fs, [], _, rfl, rfl, A1.start M c L fs, hst1, hR1, hc01.mono (fun _ h => h.elim), (fun k hk => by obtain ⟨_, _, _, e, h⟩ := hk; cases e), MarksOk.nil _ _⟩ ?_
  clear u hst1 hR1 hc01 HR0 W1
  rintro m a W ⟨u, ds, rest, ks, vq2, rfl, rfl, hA, hst, hrg, hcg, hqo, hmk⟩
  have hszW := hcg.size
  rcases RangeIs.next (P := Tryz.prog) hrg 0 with ⟨hl, hrun⟩ | ⟨A', pr, B', w', hl, hrun, hrg', hg', hs', hent⟩
  ·have hnx : ∀ ty, (Instr.next (.pointer (some ⟨W0.heap.size, 0, none⟩)) false ty).run Tryz.prog W = .ok (.tuple #[.bool false]) W := fun _ => hrun
   have hz : rest = [] := List.map_eq_nil_iff.1 hl
   subst hz
   have HA := Lib.hid (And.intro hA (And.intro hst (And.intro hcg (And.intro hqo hmk))))
   clear hl hrun hA hst hcg hqo hrg hmk
   go_wp2_with fail
   refine HP2.out _ _ ?_
   have hph : Ph1 M (Setout M (· ∈ fs) c) L ks := HA.out.1.finish Hc.out hfl2
   exact ⟨fun k => if k = 30 then .pointer (some ⟨W0.heap.size, 0, none⟩) else if k = 31 then .tuple #[.bool false] else if k = 32 then .bool false else u k, ds, ks, vq2, rfl, hph, HA.out.2.1, HA.out.2.2.1, HA.out.2.2.2.1, HA.out.2.2.2.2⟩
  ·obtain ⟨ra, p, rb, hrs, rfl, rfl, rfl⟩ := split_plc hl
   have hnx : ∀ ty, (Instr.next (.pointer (some ⟨W0.heap.size, 0, none⟩)) false ty).run Tryz.prog W = .ok (.tuple #[.bool true, .agg #[.int .i64 p.st, .string p.tx], .bool true]) w' := fun _ => hrun
   have hent' : (Instr.entry (.pointer (some ⟨W0.heap.size, 0, none⟩))).run Tryz.prog w' = .ok (.tuple #[.agg #[.int .i64 p.st, .string p.tx], .bool true]) w' := hent
   subst hrs
   have HA := Lib.hid (And.intro hA (And.intro hst (And.intro hcg (And.intro hqo (And.intro hrg (And.intro hrg' (And.intro hg' (And.intro hs' hmk))))))))
   clear hl hent hrun hA hst hcg hqo hrg hrg' hg' hs' hmk
   go_upto_region 12 with (fail)
   obtain ⟨hA, hst, hcg, hqo, hrg, hrg', hg', hs', hmk⟩ := HA.out
   have hrbo : ∀ r, some W0.heap.size = some r → ∃ o : Obj, W.heap[r]? = some o ∧ o.isCells = false := fun r e => by
    cases e
    obtain ⟨_, _, _, _, _, _, _, _, _, h5, _⟩ := hrg
    exact ⟨_, h5, rfl⟩
   have hst1 := hst.grown hg' hrbo (fun r e => by cases e; omega)
   have hcg1 := hcg.grown hg' (fun r e => by cases e; omega)
   have hmk1 : MarksOk ds w' W0.heap.size := by
    obtain ⟨Ds, h1, h2, h3⟩ := hmk
    refine ⟨Ds, h1, h2, fun D hD => ⟨(h3 D hD).1, (hg'.block D (Array.getElem?_eq_some_iff.1 (h3 D hD).2).1 (fun e => ?_)).trans (h3 D hD).2⟩⟩
    injection e with e
    obtain ⟨_, _, _, _, _, _, _, _, _, h5, _⟩ := hrg
    have := (h3 D hD).2
    rw [e, h5] at this; cases this
   obtain ⟨W2, hW2⟩ : ∃ W2 : World, W2 = w'.alloc (.cells #[.int .i64 p.st, .string p.tx] 165) := ⟨_, rfl⟩
   rw [← hW2]
   obtain ⟨pb, hpb⟩ : ∃ pb, w'.heap.size = pb := ⟨_, rfl⟩
   rw [hpb]
   have hpk : Blk W2 pb #[.int .i64 p.st, .string p.tx] 165 := by rw [hW2, ← hpb]; exact Blk.new _ _ _
   have hc2 : Chg (fun _ => False) w' W2 := by rw [hW2]; exact Chg.alloc _ _ _
   have hst2 := hst1.chg hc2 (fun h => h) (fun h => h) (fun _ _ h => h)
   have hcg2 : Chg (fun k => k = b0 + 1 ∨ k = b0 + 3) W0 W2 := hcg1.trans (hc2.mono (fun _ h => h.elim))
   have hmk2 := hmk1.chg hc2 (fun _ _ _ h => h)
   have hrg2 : RangeIs W2 bf W0.heap.size OkPlc (fs.map plcP) (ra.map plcP ++ rb.map plcP) := hrg'.blocks (hc2.block _ (MapIs.lt hrg'.isMap) (fun h => h)) (hc2.block _ hrg'.lt (fun h => h))
   have hqp : ∀ k, QOwn vq2 k → k < pb := fun k hk => by have := hst1.row.lt hk; omega
   have hpbz : b0 + 5 ≤ pb := by omega
   have hnrb : ¬ QOwn vq2 W0.heap.size := fun h => by
    obtain ⟨cur, hb⟩ := hst2.row.cells h
    obtain ⟨_, _, _, _, _, _, _, _, _, h5, _⟩ := hrg2
    unfold Blk at hb
    rw [hb] at h5; cases h5
   have HR := Lib.hid (And.intro hst2 (And.intro hcg2 (And.intro hqo (And.intro hmk2 (And.intro hpk hqp)))))
   have Hz := Lib.hid (show W2.heap.size = pb + 1 by rw [hW2, ← hpb]; simp)
   have HA1 := Lib.hid (And.intro hA hrg2)
   clear hA hst hcg hqo hrg hrg' hg' hs' hmk hrbo hst1 hcg1 hmk1 hW2 hpb hpk hc2 hst2 hcg2 hmk2 hrg2 hqp HA hnx hent'
   obtain ⟨hst2, hcg2, hqo2, hmk2, hpk2, hqp2⟩ := HR.out
   have mk := HB.out.1.chg hcg2 (by omega)
   have m0 := mk.cell 0
   have m1 := mk.cell 1
   have m2 := mk.cell 2
   have m3 := mk.cell 3
   have x0 := hpk2.cell 0
   simp only [List.getElem?_toArray, List.getElem?_cons_zero, List.getElem?_cons_succ] at m0 m1 m2 m3 x0
   clear hst2 hcg2 hqo2 hmk2 hpk2 hqp2 mk
   go_wp2_with (go_at_call 169; refine (arcs_any _ _ _ _ _ _ _).mono ?_; rintro e w' ⟨rfl, hwe⟩)
   obtain ⟨W3, hW3⟩ : ∃ W3 : World, W3 = ((W2.alloc (.cells #[.int .i64 M.states, .int .i64 M.start, .slice fa M.final.length fc, .slice aa M.arcs.length ac] 96)).alloc (.cells #[.int .i64 p.st] 3)).alloc (.cells #[.int .i64 c] 3) := ⟨_, rfl⟩
   try rw [hwe]
   rw [← hW3]
   have g0 : Blk W3 W2.heap.size #[.int .i64 M.states, .int .i64 M.start, .slice fa M.final.length fc, .slice aa M.arcs.length ac] 96 := by rw [hW3]; exact ((Blk.new _ _ _).alloc _).alloc _
   have g1 : Blk W3 (W2.heap.size + 1) #[.int .i64 p.st] 3 := by rw [hW3]; have := (Blk.new (W2.alloc (.cells #[.int .i64 M.states, .int .i64 M.start, .slice fa M.final.length fc, .slice aa M.arcs.length ac] 96)) #[.int .i64 p.st] 3).alloc (.cells #[.int .i64 c] 3); simpa using this
   have g2 : Blk W3 (W2.heap.size + 2) #[.int .i64 c] 3 := by rw [hW3]; have := Blk.new ((W2.alloc (.cells #[.int .i64 M.states, .int .i64 M.start, .slice fa M.final.length fc, .slice aa M.arcs.length ac] 96)).alloc (.cells #[.int .i64 p.st] 3)) #[.int .i64 c] 3; simpa using this
   have hc23 : Chg (fun _ => False) W2 W3 := by rw [hW3]; exact ((Chg.alloc _ _ _).trans (Chg.alloc _ _ _)).trans (Chg.alloc _ _ _)
   have hs3 : W3.heap.size = W2.heap.size + 3 := by rw [hW3]; simp
   obtain ⟨o, ho⟩ : ∃ o, W2.heap.size = o := ⟨_, rfl⟩
   rw [ho] at g0 g1 g2 hs3 ⊢
   have HO3 := Lib.hid (And.intro ho hc23)
   clear hwe hW3 m0 m1 m2 m3 x0 hc23 ho
   refine wp_reframe (fun u => (List.toArray (α := Value) (.agg #[.int .i64 M.states, .int .i64 M.start, .slice fa M.final.length fc, .slice aa M.arcs.length ac] :: .map (some bf) :: .int .i64 c :: .pointer (some ⟨b0, 0, none⟩) :: u 4 :: u 5 :: .map none :: .bool false :: .pointer (some ⟨b0 + 2, 0, none⟩) :: .pointer (some ⟨b0 + 3, 0, none⟩) :: .pointer (some ⟨b0 + 4, 0, none⟩) :: u 11 :: .pointer (some ⟨pb, 0, none⟩) :: u 13 :: u 14 :: u 15 :: u 16 :: u 17 :: u 18 :: u 19 :: u 20 :: u 21 :: u 22 :: u 23 :: u 24 :: u 25 :: u 26 :: u 27 :: u 28 :: u 29 :: .pointer (some ⟨W0.heap.size, 0, none⟩) :: u 31 :: u 32 :: u 33 :: u 34 :: u 35 :: u 36 :: u 37 :: u 38 :: .func (.func 212) #[] #[.pointer (some ⟨o, 0, none⟩), .pointer (some ⟨o + 1, 0, none⟩), .pointer (some ⟨o + 2, 0, none⟩)] :: u 40 :: u 41 :: u 42 :: u 43 :: u 44 :: u 45 :: u 46 :: u 47 :: u 48 :: u 49 :: u 50 :: u 51 :: u 52 :: u 53 :: u 54 :: u 55 :: u 56 :: u 57 :: u 58 :: u 59 :: u 60 :: u 61 :: u 62 :: u 63 :: u 64 :: u 65 :: u 66 :: u 67 :: u 68 :: u 69 :: u 70 :: u 71 :: u 72 :: u 73 :: u 74 :: u 75 :: u 76 :: u 77 :: u 78 :: u 79 :: u 80 :: u 81 :: u 82 :: []))) rfl ?_
   clear u
   intro u
   obtain ⟨hst2, hcg2, hqo2, hmk2, hpk2, hqp2⟩ := HR.out
   obtain ⟨ho, hc23⟩ := HO3.out
   have hz2 := Hz.out
   have hop1 : o ≤ pb + 1 := by omega
   have hop2 : pb + 1 ≤ o := by omega
   have hs31 : W3.heap.size ≤ o + 3 := by omega
   have hs32 : o + 3 ≤ W3.heap.size := by omega
   have hst3 := hst2.chg hc23 (fun h => h) (fun h => h) (fun _ _ h => h)
   have hcg3 : Chg (fun k => k = b0 + 1 ∨ k = b0 + 3) W0 W3 := hcg2.trans (hc23.mono (fun _ h => h.elim))
   have hmk3 := hmk2.chg hc23 (fun _ _ _ h => h)
   have hpk3 := hpk2.chg hc23 (fun h => h)
   have hz30 := hcg3.size
   have hrow3 : RowAt W3 W3.heap.size aa (flat M.arcs) := (HB.out.2.2.2.1.chg hcg3 (by omega) (fun h0 q hq => by have := HF.out.2.2 (by rw [flat_length] at h0; omega) q hq; omega)).more (by omega)
   have hrowb : 0 < M.arcs.length → ∀ q, aa = some q → q.block < o := fun h0 q hq => by have := HF.out.2.2 h0 q hq; omega
   have hIt : IterAt W3 o (o + 1) (o + 2) M.arcs p.st c aa ac := ⟨g0.cell 3, g1.cell 0, g2.cell 0, hrow3⟩
   have hci := HA1.out.1.open
   have hpst : StateOk M.states p.st := HF.out.2.1 p hci.mem
   have hfn3 := HB.out.2.2.1.chg hcg3 (by omega)
   have htb3 := HB.out.2.1.chg hcg3 (by omega)
   have H3 := Lib.hid (And.intro hst3 (And.intro hcg3 (And.intro hqo2 (And.intro hmk3 (And.intro hpk3 (And.intro hqp2 (And.intro hIt (And.intro hci (And.intro hpst (And.intro hfn3 htb3))))))))))
   clear hst2 hcg2 hqo2 hmk2 hpk2 hqp2 hst3 hcg3 hmk3 hpk3 hrow3 hIt hci hpst hfn3 htb3 hc23 ho g0 g1 g2 hz2 hs3
   refine (wpIn_wide (n := 5)).1 ?_
   refine wpIn_rangeFunc_ownH (α := {x // x ∈ runA M.arcs p.st c}) (encs := fun x => #[.agg #[.int .i64 x.1.frm, .int .i64 x.1.inp, .int .i64 x.1.out, .int .i64 x.1.to]]) (Kp := Keep4 o (o + 1) (o + 2) M.arcs aa) (S := fun ys => ys.map (·.1) = runA M.arcs p.st c) (Sp := fun _ => True) (N := (runA M.arcs p.st c).length) (w0 := W3)
    rfl (by omega) (gf := 212) (lb := #[.pointer (some ⟨o, 0, none⟩), .pointer (some ⟨o + 1, 0, none⟩), .pointer (some ⟨o + 2, 0, none⟩)]) rfl trivial (enters_of Tryz.func212 (by kernel_rfl) rfl)
    ?seq (fun h k => h.trans k) ?kb (Below.refl _ _) (fun _ => rfl)
    (fun pre W => ∃ (ks' : List Plc) (vq' : Value), A1i M c L fs (ra ++ rb) p (pre.map (·.1)) ks' ∧ StAt W (b0 + 1) (b0 + 3) ks' ks' vq' ∧ Chg (fun k => k = b0 + 1 ∨ k = b0 + 3 ∨ QOwn vq2 k) W3 W ∧ (∀ k, QOwn vq' k → QOwn vq2 k ∨ W3.heap.size ≤ k))
    (fun _ _ _ => False)
    ?hI ?hIx ?h0
    (fun x a' W => ∃ g4, a' = { tmps := (List.toArray (α := Value) (.agg #[.int .i64 M.states, .int .i64 M.start, .slice fa M.final.length fc, .slice aa M.arcs.length ac] :: .map (some bf) :: .int .i64 c :: .pointer (some ⟨b0, 0, none⟩) :: u 4 :: u 5 :: .map none :: .bool false :: .pointer (some ⟨b0 + 2, 0, none⟩) :: .pointer (some ⟨b0 + 3, 0, none⟩) :: .pointer (some ⟨b0 + 4, 0, none⟩) :: u 11 :: .pointer (some ⟨pb, 0, none⟩) :: .pointer (some ⟨g4, 0, none⟩) :: u 14 :: u 15 :: u 16 :: u 17 :: u 18 :: u 19 :: u 20 :: u 21 :: u 22 :: u 23 :: u 24 :: u 25 :: u 26 :: u 27 :: u 28 :: u 29 :: .pointer (some ⟨W0.heap.size, 0, none⟩) :: u 31 :: u 32 :: u 33 :: u 34 :: u 35 :: u 36 :: u 37 :: u 38 :: .func (.func 212) #[] #[.pointer (some ⟨o, 0, none⟩), .pointer (some ⟨o + 1, 0, none⟩), .pointer (some ⟨o + 2, 0, none⟩)] :: .agg #[.int .i64 x.1.frm, .int .i64 x.1.inp, .int .i64 x.1.out, .int .i64 x.1.to] :: u 41 :: u 42 :: u 43 :: u 44 :: u 45 :: u 46 :: u 47 :: u 48 :: u 49 :: u 50 :: u 51 :: u 52 :: u 53 :: u 54 :: u 55 :: u 56 :: u 57 :: u 58 :: u 59 :: u 60 :: u 61 :: u 62 :: u 63 :: u 64 :: u 65 :: u 66 :: u 67 :: u 68 :: u 69 :: u 70 :: u 71 :: u 72 :: u 73 :: u 74 :: u 75 :: u 76 :: u 77 :: u 78 :: u 79 :: u 80 :: u 81 :: u 82 :: [])), defers := [] } ∧ Blk W g4 #[.int .i64 x.1.frm, .int .i64 x.1.inp, .int .i64 x.1.out, .int .i64 x.1.to] 177) ?hAx ?assign ?body ?done ?stop
   case seq => exact arcs_seq 4 (by omega) o (o + 1) (o + 2) M.arcs p.st c aa ac HV.out.1.arcsLen HV.out.2.1 HV.out.2.2.1 HV.out.1.arcsInc (HV.out.2.2.2.2 _ _ H3.out.2.2.2.2.2.2.2.2.1 hc0 hc1) W3 H3.out.2.2.2.2.2.2.1
   case kb =>
    intro W l ob ob' hl _ _ _
    exact ⟨World.putObj_heap_other (by omega), World.putObj_heap_other (by omega), World.putObj_heap_other (by omega), fun h0 q hq => World.putObj_heap_other (by have := hrowb h0 q hq; omega)⟩
   case hI =>
    rintro pre X Y row ⟨ks', vq', h1, h2, h3, h4⟩ hg hr
    exact ⟨ks', vq', h1, h2.grown hg (fun r e => (hr r e).2) (fun r e => by have := (hr r e).1; omega), h3.grown hg (fun r e => (hr r e).1), h4⟩
   case hIx => rintro cc pre X Y row h hg hr; exact h
   case h0 => exact ⟨ks, vq2, H3.out.2.2.2.2.2.2.2.1, H3.out.1, Chg.refl _ _, fun k hk => .inl hk⟩
   case hAx =>
    rintro x a' _ X Y row ⟨g4, rfl, hg0⟩ hg hr
    exact ⟨g4, rfl, ownBlk hg0 hg (fun r e => (hr r e).2)⟩
   case assign =>
    rintro l pre x W K ⟨ks', vq', h1, h2, h3, h4⟩ hK
    have hz3 := h3.size
    have hqp3 := H3.out.2.2.2.2.2.1
    gi_wp2
    refine hK _ _ ?_ ?_ ⟨ks', vq', h1, h2.chg (Chg.alloc (fun _ => False) _ _) (fun h => h) (fun h => h) (fun _ _ h => h), h3.trans (Chg.alloc _ _ _), h4⟩ ⟨_, rfl, Blk.new _ _ _⟩
    ·exact keepsFrom_chg (S := fun _ => False) _ (Chg.alloc _ _ _) (fun _ h => h.elim)
    ·exact (H3.out.2.2.2.2.2.2.1.keep ⟨h3.block o (by omega) (fun h => by rcases h with h | h | h; omega; omega; have := hqp3 _ h; omega), h3.block (o + 1) (by omega) (fun h => by rcases h with h | h | h; omega; omega; have := hqp3 _ h; omega), h3.block (o + 2) (by omega) (fun h => by rcases h with h | h | h; omega; omega; have := hqp3 _ h; omega), fun h0 q hq => h3.block q.block (by have := hrowb h0 q hq; omega) (fun h => by
       have hq0 := HF.out.2.2 h0 q hq
       rcases h with h | h | h
       ·omega
       ·omega
       ·have := H3.out.2.2.1 _ h; omega)⟩).below ((Below.refl _ W).alloc (Nat.le_refl _) _)
   case body =>
    rintro l pre ⟨x, hxr⟩ a' W hl hrec ⟨ks', vq', h1, h2, h3, h4⟩ ⟨g4, rfl, hg4⟩ hlt
    dsimp only at hg4 ⊢
    have hxv := HV.out.2.2.2.1 x (mem_runA.1 hxr).1
    have hzW := h3.size
    have hqp3 := H3.out.2.2.2.2.2.1
    have hq0 : ∀ k, QOwn vq' k → W0.heap.size ≤ k ∧ (k < pb ∨ W3.heap.size ≤ k) := fun k hk => by
     rcases h4 k hk with h | h
     ·exact ⟨H3.out.2.2.1 k h, .inl (hqp3 k h)⟩
     ·exact ⟨by omega, .inr h⟩
    have hpkW := H3.out.2.2.2.2.1.chg h3 (fun h => by rcases h with h | h | h; omega; omega; have := hqp3 _ h; omega)
    have hfnW := H3.out.2.2.2.2.2.2.2.2.2.1.chg h3 (fun h => by rcases h with h | h | h; omega; omega; have := H3.out.2.2.1 _ h; omega)
    have htbW := H3.out.2.2.2.2.2.2.2.2.2.2.chg h3 (fun h => by rcases h with h | h | h; omega; omega; have := H3.out.2.2.1 _ h; omega)
    have c0' := hfnW.cell 0
    have c1' := hg4.cell 3
    have c2' := hpkW.cell 1
    have c3' := hg4.cell 2
    simp only [List.getElem?_toArray, List.getElem?_cons_zero, List.getElem?_cons_succ] at c0' c1' c2' c3'
    have Hh := Lib.hid (And.intro h1 (And.intro h2 (And.intro h3 (And.intro h4 (And.intro hg4 (And.intro hpkW (And.intro hfnW htbW)))))))
    clear h1 h2 h3 h4 hg4 hpkW hfnW htbW
    gi_wp2
    refine wpIn_region_held (S := fun w' => w'.cell? ⟨b0 + 4, 0, none⟩ = some (.func (.func 170) #[] #[.pointer (some ⟨b0 + 2, 0, none⟩), .pointer (some ⟨b0 + 3, 0, none⟩)]) ∧ w'.cell? ⟨g4, 3, none⟩ = some (.int .i64 x.to) ∧ w'.cell? ⟨pb, 1, none⟩ = some (.string p.tx) ∧ w'.cell? ⟨g4, 2, none⟩ = some (.int .i64 x.out)) (by kernel_rfl) (by kernel_rfl) (by rintro ⟨_, _, h⟩; exact h) ?_
    have hS : W.drew.cell? ⟨b0 + 4, 0, none⟩ = some (.func (.func 170) #[] #[.pointer (some ⟨b0 + 2, 0, none⟩), .pointer (some ⟨b0 + 3, 0, none⟩)]) ∧ W.drew.cell? ⟨g4, 3, none⟩ = some (.int .i64 x.to) ∧ W.drew.cell? ⟨pb, 1, none⟩ = some (.string p.tx) ∧ W.drew.cell? ⟨g4, 2, none⟩ = some (.int .i64 x.out) := ⟨c0', c1', c2', c3'⟩
    refine wpAnyH_take (i := 0) (v := .func (.func 170) #[] #[.pointer (some ⟨b0 + 2, 0, none⟩), .pointer (some ⟨b0 + 3, 0, none⟩)]) rfl (by kernel_rfl) (by kernel_rfl) (by kernel_rfl) (fun _ _ _ h => h) (Or.inl ⟨by rfl, ?_⟩) (by assumption) ?_
    ·rintro w' ⟨s0, s1, s2, s3⟩
     go_simp
    try simp only [Act.put, List.setIfInBounds_toArray]
    refine wpAnyH_take (i := 1) (v := .pointer (some ⟨g4, 3, none⟩)) rfl (by kernel_rfl) (by kernel_rfl) (by kernel_rfl) (fun _ _ _ h => h) (Or.inl ⟨by rfl, ?_⟩) (by assumption) ?_
    ·rintro w' ⟨s0, s1, s2, s3⟩
     go_simp
    try simp only [Act.put]
    refine wpAnyH_take (i := 2) (v := .int .i64 x.to) rfl (by kernel_rfl) (by kernel_rfl) (by kernel_rfl) (fun _ _ _ h => h) (Or.inl ⟨by rfl, ?_⟩) (by assumption) ?_
    ·rintro w' ⟨s0, s1, s2, s3⟩
     go_simp
    try simp only [Act.put]
    refine wpAnyH_take (i := 3) (v := .pointer (some ⟨pb, 1, none⟩)) rfl (by kernel_rfl) (by kernel_rfl) (by kernel_rfl) (fun _ _ _ h => h) (Or.inl ⟨by rfl, ?_⟩) (by assumption) ?_
    ·rintro w' ⟨s0, s1, s2, s3⟩
     go_simp
    try simp only [Act.put]
    refine wpAnyH_take (i := 4) (v := .string p.tx) rfl (by kernel_rfl) (by kernel_rfl) (by kernel_rfl) (fun _ _ _ h => h) (Or.inl ⟨by rfl, ?_⟩) (by assumption) ?_
    ·rintro w' ⟨s0, s1, s2, s3⟩
     go_simp
    try simp only [Act.put]
    refine wpAnyH_take (i := 5) (v := .pointer (some ⟨g4, 2, none⟩)) rfl (by kernel_rfl) (by kernel_rfl) (by kernel_rfl) (fun _ _ _ h => h) (Or.inl ⟨by rfl, ?_⟩) (by assumption) ?_
    ·rintro w' ⟨s0, s1, s2, s3⟩
     go_simp
    try simp only [Act.put]
    refine wpAnyH_take (i := 6) (v := .int .i64 x.out) rfl (by kernel_rfl) (by kernel_rfl) (by kernel_rfl) (fun _ _ _ h => h) (Or.inl ⟨by rfl, ?_⟩) (by assumption) ?_
    ·rintro w' ⟨s0, s1, s2, s3⟩
     go_simp
    try simp only [Act.put]
    refine wpAnyH_ready (rs := [7]) (by kernel_rfl) (by simp) (AllReadyH.cons (i := 7) rfl (fun K hK => ?_) AllReadyH.nil)
    simp only [Act.put, List.getElem_toArray, List.getElem_cons_succ, List.getElem_cons_zero, List.setIfInBounds_toArray, List.set_cons_zero, List.set_cons_succ]
    go_simp
    have hi5 := Hh.out.1
    have hps5 : p.tx.size ≤ 1000000 := by have := HF.out.1 p hi5.mem; omega
    refine (after_any p.tx x.out (HV.out.1.arcs x (mem_runA.1 hxr).1).2.2.2 hps5 _).mono ?_
    rintro e w5 ⟨rfl, hb5⟩
    have hS5 : w5.cell? ⟨b0 + 4, 0, none⟩ = some (.func (.func 170) #[] #[.pointer (some ⟨b0 + 2, 0, none⟩), .pointer (some ⟨b0 + 3, 0, none⟩)]) ∧ w5.cell? ⟨g4, 3, none⟩ = some (.int .i64 x.to) ∧ w5.cell? ⟨pb, 1, none⟩ = some (.string p.tx) ∧ w5.cell? ⟨g4, 2, none⟩ = some (.int .i64 x.out) :=
     ⟨(hb5.cell (p := ⟨b0 + 4, 0, none⟩) (lt_of_cell hS.1)).trans hS.1, (hb5.cell (p := ⟨g4, 3, none⟩) (lt_of_cell hS.2.1)).trans hS.2.1, (hb5.cell (p := ⟨pb, 1, none⟩) (lt_of_cell hS.2.2.1)).trans hS.2.2.1, (hb5.cell (p := ⟨g4, 2, none⟩) (lt_of_cell hS.2.2.2)).trans hS.2.2.2⟩
    have hc5 : Chg (fun _ => False) W w5 := (Chg.drewN (fun _ => False) W 1).trans (Chg.of_below _ hb5)
    have hst5 := Hh.out.2.1.chg hc5 (fun h => h) (fun h => h) (fun _ _ h => h)
    have ht5 := (Hh.out.2.2.2.2.2.2.2.chg hc5 (fun h => h)).cell 0
    simp only [List.getElem?_toArray, List.getElem?_cons_zero] at ht5
    refine hK.out _ _ hS5 (fun _ => ?_)
    clear hK K hS c0' c1' c2' c3' hb5
    refine wpAnyH_take (i := 8) (v := .agg #[.int .i64 x.to, .string (afterB p.tx x.out)]) rfl (by kernel_rfl) (by kernel_rfl) (by kernel_rfl) (fun _ _ _ h => h) (Or.inl ⟨by rfl, ?_⟩) (by assumption) ?_
    ·rintro w' ⟨s0, s1, s2, s3⟩
     go_simp
    refine wpAnyH_ready (rs := [9]) (by kernel_rfl) (by simp) (AllReadyH.cons (i := 9) rfl (fun K hK => ?_) AllReadyH.nil)
    simp only [Act.put, List.getElem_toArray, List.getElem_cons_succ, List.getElem_cons_zero, List.setIfInBounds_toArray, List.set_cons_zero, List.set_cons_succ]
    go_simp
    have hlen5 : ks'.length ≤ 1000000000 := by
     have h1 := hi5.len
     have h2 : pre.length ≤ 20000 := by have := runA_len M.arcs p.st c; have := HV.out.1.arcsLen; omega
     simp only [List.length_map] at h1
     omega
    refine (reach_any (b0 + 2) (b0 + 1) (b0 + 3) ks' ks' vq' (stepA p x) w5 ht5 hst5 (by omega) ⟨by omega, by omega⟩ hlen5).mono ?_
    rintro e w6 ⟨rfl, vq6, hst6, hc6, hq6⟩
    have hgt : ∀ k, QOwn vq' k → k ≠ g4 := fun k hk e => by
     obtain ⟨cur', hb'⟩ := Hh.out.2.1.row.cells hk
     have h5 := Hh.out.2.2.2.2.1
     unfold Blk at hb' h5
     rw [e, h5] at hb'
     injection hb' with h1
     injection h1 with _ h2
     exact absurd h2 (by decide)
    have hg4l := Hh.out.2.2.2.2.1.lt
    have hg4b : g4 ≠ b0 + 3 := fun e => by
     have h5 := Hh.out.2.2.2.2.1
     have h6 := Hh.out.2.1.box
     unfold Blk at h5 h6
     rw [e, h6] at h5
     injection h5 with h1
     injection h1 with _ h2
     exact absurd h2 (by decide)
    have hg4m : g4 ≠ b0 + 1 := fun e => by
     have h5 := Hh.out.2.2.2.2.1
     obtain ⟨es, cl, hm, _⟩ := Hh.out.2.1.set
     unfold Blk at h5
     rw [e, hm] at h5; cases h5
    have hnS4 : ¬ (b0 + 4 = b0 + 1 ∨ b0 + 4 = b0 + 3 ∨ QOwn vq' (b0 + 4)) := fun h => by rcases h with h | h | h; omega; omega; have := (hq0 _ h).1; omega
    have hnSp : ¬ (pb = b0 + 1 ∨ pb = b0 + 3 ∨ QOwn vq' pb) := fun h => by rcases h with h | h | h; omega; omega; have := (hq0 _ h).2; omega
    have hnSg : ¬ (g4 = b0 + 1 ∨ g4 = b0 + 3 ∨ QOwn vq' g4) := fun h => by rcases h with h | h | h; exact hg4m h; exact hg4b h; exact hgt _ h rfl
    refine hK.out _ _ ⟨(heap_cell (hc6.block _ (lt_of_cell hS5.1) hnS4) 0).trans hS5.1, (heap_cell (hc6.block _ (lt_of_cell hS5.2.1) hnSg) 3).trans hS5.2.1, (heap_cell (hc6.block _ (lt_of_cell hS5.2.2.1) hnSp) 1).trans hS5.2.2.1, (heap_cell (hc6.block _ (lt_of_cell hS5.2.2.2) hnSg) 2).trans hS5.2.2.2⟩ (fun _ => ?_)
    clear hK K
    refine wpAnyH_done (by kernel_rfl) ?_ _
    have hcW6 : Chg (fun k => k = b0 + 1 ∨ k = b0 + 3 ∨ QOwn vq' k) W w6 := (hc5.mono (fun _ h => h.elim)).trans hc6
    obtain ⟨h1, h2, h3, h4, _⟩ := Hh.out
    have hz56 := hc5.size
    refine ⟨keepsFrom_chg2 _ hcW6 (fun k hk => ?_), ⟨hcW6.block o (by omega) (fun h => by rcases h with h | h | h; omega; omega; have := (hq0 _ h).2; omega), hcW6.block (o + 1) (by omega) (fun h => by rcases h with h | h | h; omega; omega; have := (hq0 _ h).2; omega), hcW6.block (o + 2) (by omega) (fun h => by rcases h with h | h | h; omega; omega; have := (hq0 _ h).2; omega), fun hz q hq => hcW6.block q.block (by have := hrowb hz q hq; omega) (fun h => by
      have hq00 := HF.out.2.2 hz q hq
      rcases h with h | h | h
      ·omega
      ·omega
      ·have := (hq0 _ h).1; omega)⟩, addP ks' (stepA p x), vq6, ?_, ?_, h3.trans_if hcW6 (fun k hk hkl => ?_), fun k hk => ?_⟩
    ·rcases hk with rfl | rfl | h
     ·exact .inl (by omega)
     ·exact .inl (by omega)
     ·obtain ⟨cur', hb'⟩ := h2.row.cells h
      exact .inr ⟨_, _, hb'⟩
    ·rw [List.map_append]; exact h1.step hxr hxv (HF.out.1 p h1.mem)
    ·rw [addP_eq] at hst6; exact hst6
    ·rcases hk with h | h | h
     ·exact .inl h
     ·exact .inr (.inl h)
     ·rcases h4 k h with h | h
      ·exact .inr (.inr h)
      ·omega
    ·rcases hq6 k hk with h | h
     ·exact h4 k h
     ·exact .inr (by omega)
   case done =>
    rintro D ys W' hD hys ⟨ks', vq', h1, h2, h3, h4⟩ hK
    rw [hys] at h1
    have hB' := h1.close HV.out.1.arcsLen
    have hcg' : Chg (fun k => k = b0 + 1 ∨ k = b0 + 3) W0 W' := H3.out.2.1.trans_if h3 (fun k hk hkl => by
     rcases hk with h | h | h
     ·exact .inl h
     ·exact .inr h
     ·have := H3.out.2.2.1 k h; omega)
    have hqo' : ∀ k, QOwn vq' k → W0.heap.size ≤ k := fun k hk => by
     rcases h4 k hk with h | h
     ·exact H3.out.2.2.1 k h
     ·omega
    have hmk' : MarksOk ({ target := .collected D, args := #[] } :: ds) W' W0.heap.size := H3.out.2.2.2.1.cons h3 (fun E hE hE0 h => by
     rcases h with h | h | h
     ·omega
     ·omega
     ·obtain ⟨cur', hb'⟩ := H3.out.1.row.cells h
      unfold Blk at hb'
      rw [hb'] at hE; cases hE) hD hz30 hK
    have hrg' : RangeIs W' bf W0.heap.size OkPlc (fs.map plcP) ((ra ++ rb).map plcP) := by
     rw [List.map_append]
     have hz0 := MapIs.lt HA1.out.2.isMap
     have hz1 := HA1.out.2.lt
     have hc2' : Chg (fun k => k = b0 + 1 ∨ k = b0 + 3 ∨ QOwn vq2 k) W2 W' := Chg.trans_if (HO3.out.2.mono (fun _ h => h.elim)) h3 (fun k hk _ => hk)
     exact HA1.out.2.blocks (hc2'.block _ hz0 (fun h => by rcases h with h | h | h; omega; omega; have := H3.out.2.2.1 _ h; omega)) (hc2'.block _ hz1 (fun h => by rcases h with h | h | h; omega; omega; exact hnrb h))
    exact ⟨(ra ++ rb).length, by simp, fun k => if k = 12 then .pointer (some ⟨pb, 0, none⟩) else if k = 39 then .func (.func 212) #[] #[.pointer (some ⟨o, 0, none⟩), .pointer (some ⟨o + 1, 0, none⟩), .pointer (some ⟨o + 2, 0, none⟩)] else u k, _, ra ++ rb, ks', vq', rfl, rfl, hB', h2, hrg', hcg', hqo', hmk'⟩
   case stop => rintro D cc pre W hD _ h; exact h.elim
end Go.Proofs.YthachfkcgdfdfaaGreatDoor
