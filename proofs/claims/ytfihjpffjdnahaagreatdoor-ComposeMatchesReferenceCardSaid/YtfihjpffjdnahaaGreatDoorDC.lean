/- D6a · D6b · D7 -/
import Derived.Test.YtfihjpffjdnahaaGreatDoorDD
import Derived.Test.YtfihjpffjdnahaaGreatDoorT3
import Derived.Maps.AppendAt
/- A machine that is being made: its box, its rows of final states and arcs. -/
namespace Go.Proofs.YtfihjpffjdnahaaGreatDoor
open Go.RowKit Classical

structure OutAt (w : World) (n0 bO : Nat) (st s0 : Int) (fl : List Int) (al : List Arc) (fv av : Value) : Prop where
 blk : Blk w bO #[.int .i64 st, .int .i64 s0, fv, av] 25
 fin : w.ownsRow n0 3 1 fv fl.length (nums fl)
 arc : arcRow w n0 av al
section
variable {w w' X : World} {n0 bO : Nat} {st s0 : Int} {fl : List Int} {al : List Arc} {fv av v' : Value}
theorem OutAt.below (h : OutAt w n0 bO st s0 fl al fv av) (hb : Below w.heap.size w w') : OutAt w' n0 bO st s0 fl al fv av :=
 ⟨h.blk.below hb h.blk.lt, own_below h.fin hb, own_below h.arc hb⟩
theorem OutAt.chg {S : Nat → Prop} (h : OutAt w n0 bO st s0 fl al fv av) (hc : Chg S w w') (h1 : ¬ S bO) (h2 : ∀ g, n0 ≤ g → ¬ S g) : OutAt w' n0 bO st s0 fl al fv av :=
 ⟨h.blk.chg hc h1, own_chg h.fin hc (fun g e => h2 g (h.fin.lt g e).1), own_chg h.arc hc (fun g e => h2 g (h.arc.lt g e).1)⟩
/-- An arc more. -/
theorem OutAt.arc_more (h : OutAt w n0 bO st s0 fl al fv av) {x : Arc} (hb : Below w.heap.size w X) (hown : w'.ownsRow n0 40 4 v' (al.length + 1) (flat al ++ x.cells)) (hg : X.grownBy w' av.ownBlock) :
  Blk w' bO #[.int .i64 st, .int .i64 s0, fv, av] 25 ∧ OutAt (w'.setCell ⟨bO, 3, none⟩ v') n0 bO st s0 fl (al ++ [x]) fv v' := by
 have hr := own_below h.arc hb
 have hb' : Blk w' bO #[.int .i64 st, .int .i64 s0, fv, av] 25 := (h.blk.below hb h.blk.lt).grown hg (fun e => (h.blk.below hb h.blk.lt).own_ne hr (by decide) e.symm)
 have hf' : w'.ownsRow n0 3 1 fv fl.length (nums fl) := own_kept_other (own_below h.fin hb) hr (by decide) hg
 refine ⟨hb', ?_, own_setCell hf' (p := ⟨bO, 3, none⟩) (hb'.own_ne hf' (by decide)) _, ?_⟩
 ·have := hb'.set_ 3 v'; simpa using this
 ·have := own_setCell hown (p := ⟨bO, 3, none⟩) (hb'.own_ne hown (by decide)) v'
  unfold arcRow
  rw [List.length_append, flat_append, flat_one]
  exact this
/-- A final state more. -/
theorem OutAt.fin_more (h : OutAt w n0 bO st s0 fl al fv av) {x : Int} (hb : Below w.heap.size w X) (hown : w'.ownsRow n0 3 1 v' (fl.length + 1) (nums fl ++ [.int .i64 x])) (hg : X.grownBy w' fv.ownBlock) :
  Blk w' bO #[.int .i64 st, .int .i64 s0, fv, av] 25 ∧ OutAt (w'.setCell ⟨bO, 2, none⟩ v') n0 bO st s0 (fl ++ [x]) al v' av := by
 have hr := own_below h.fin hb
 have hb' : Blk w' bO #[.int .i64 st, .int .i64 s0, fv, av] 25 := (h.blk.below hb h.blk.lt).grown hg (fun e => (h.blk.below hb h.blk.lt).own_ne hr (by decide) e.symm)
 have ha' : w'.ownsRow n0 40 4 av al.length (flat al) := own_kept_other (own_below h.arc hb) hr (by decide) hg
 refine ⟨hb', ?_, ?_, own_setCell ha' (p := ⟨bO, 2, none⟩) (hb'.own_ne ha' (by decide)) _⟩
 ·have := hb'.set_ 2 v'; simpa using this
 ·have := own_setCell hown (p := ⟨bO, 2, none⟩) (hb'.own_ne hown (by decide)) v'
  rw [List.length_append, nums_append]
  exact this
end
theorem zero_mach (w : World) (B : Nat) : MachAt w B (.agg #[.int .i64 0, .int .i64 0, .slice none 0 0, .slice none 0 0]) zeroM :=
 ⟨none, 0, none, 0, rfl, by simp [zeroM], by simp [zeroM], fun h => by simp [nums, zeroM] at h, fun h => by simp [flat, zeroM] at h⟩
theorem RowAt.marks {w w' : World} {a : Option Addr} {xs : List Value} {Ds : List Nat} (h : RowAt w w.heap.size a xs) (hD : ∀ D ∈ Ds, w.heap[D]? = some (.deferred (some []))) (hc : Chg (fun k => k ∈ Ds) w w') : RowAt w' w'.heap.size a xs :=
 (h.chg hc (Nat.le_refl _) (fun h0 p hp hm => by
  obtain ⟨b, off, e, _, hx⟩ := h h0
  rw [hp] at e
  injection e with e
  subst e
  have h1 := hx 0 xs[0] (List.getElem?_eq_getElem h0)
  have h2 := hD b hm
  simp [World.cell?, h2] at h1)).more hc.size
theorem MachAt.marks {w w' : World} {v : Value} {M : Mach} {Ds : List Nat} (h : MachAt w w.heap.size v M) (hD : ∀ D ∈ Ds, w.heap[D]? = some (.deferred (some []))) (hc : Chg (fun k => k ∈ Ds) w w') : MachAt w' w'.heap.size v M := by
 obtain ⟨fa, fc, aa, ac, e, h1, h2, h3, h4⟩ := h
 exact ⟨fa, fc, aa, ac, e, h1, h2, h3.marks hD hc, h4.marks hD hc⟩
/-- A return with marks. -/
theorem ret_marks {F : Fence} {n : Nat} {P : Program} {fn : Func} {tmps : Array Value} {R : Ending → World → Prop} {ds : List Deferred} {W : World} {n0 : Nat} {v : Value} (hmk : MarksOk ds W n0)
  (h : ∀ (W' : World) (Ds : List Nat), (∀ D ∈ Ds, n0 ≤ D ∧ W.heap[D]? = some (.deferred (some []))) → Chg (fun k => k ∈ Ds) W W' → (results fn tmps).run P W' = .ok v W' ∧ R (.returned v) W') : bodyPostM F n P fn R .ret { tmps := tmps, defers := ds } W := by
 obtain ⟨Ds, rfl, hnd, hD⟩ := hmk
 show LeavesInM _ _ _ _ _ _ _ _ _
 exact leaves_marks Ds W hnd (fun D h => (hD D h).2) (fun W' hc => ⟨v, h W' Ds hD hc⟩)
end Go.Proofs.YtfihjpffjdnahaaGreatDoor

/- A machine that is made: stored, trimmed, returned. -/
namespace Go.Proofs.YtfihjpffjdnahaaGreatDoor
open Go.RowKit Classical

section
variable {w w' X Y : World} {n0 b bO bR B : Nat} {t : TypeId} {x0 x1 x3 y0 y1 y2 y3 v0 v1 v2 v3 : Value} {fa fva aS : Option Addr} {fl' fc fvc cS : Nat} {S : List Arc} {fl : List Int} {C : Mach}
theorem row_arc_ne {a : Option Addr} (h : RowAt w B a (flat S)) (hb : Blk w b #[x0, x1, .slice fa fl' fc, x3] t) (h0 : 0 < (flat S).length) (p : Addr) (hp : a = some p) : ¬ p.block = b := by
 intro e
 have hn : 0 < S.length := by rw [flat_length] at h0; omega
 obtain ⟨b', off, e', _, hx⟩ := h.arcs hn
 rw [hp] at e'
 injection e' with e'
 subst e'
 simp only at e
 subst e
 obtain ⟨h1, h2, h3, h4⟩ := hx 0 hn
 rw [hb.cell] at h3 h4
 have hof : off = 0 := by
  have := (Array.getElem?_eq_some_iff.1 h4).1
  simp at this
  omega
 subst hof
 simp at h3
theorem Blk.fill (h : Blk w b #[y0, y1, y2, y3] t) (v0 v1 v2 v3 : Value) : Blk ((((w.setCell ⟨b, 0, none⟩ v0).setCell ⟨b, 1, none⟩ v1).setCell ⟨b, 2, none⟩ v2).setCell ⟨b, 3, none⟩ v3) b #[v0, v1, v2, v3] t := by
 have := (((h.set_ 0 v0).set_ 1 v1).set_ 2 v2).set_ 3 v3
 simpa using this
theorem fill_chg (w : World) (b : Nat) (v0 v1 v2 v3 : Value) : Chg (fun k => k = b) w ((((w.setCell ⟨b, 0, none⟩ v0).setCell ⟨b, 1, none⟩ v1).setCell ⟨b, 2, none⟩ v2).setCell ⟨b, 3, none⟩ v3) :=
 (((Chg.setCell (S := fun k => k = b) (p := ⟨b, 0, none⟩) w (.inl rfl) v0).trans (Chg.setCell (S := fun k => k = b) (p := ⟨b, 1, none⟩) _ (.inl rfl) v1)).trans (Chg.setCell (S := fun k => k = b) (p := ⟨b, 2, none⟩) _ (.inl rfl) v2)).trans (Chg.setCell (S := fun k => k = b) (p := ⟨b, 3, none⟩) _ (.inl rfl) v3)
theorem marks_blk {S : Nat → Prop} {ds : List Deferred} (h : MarksOk ds w n0) (hc : Chg S w w') (hS : ∀ k, S k → ∃ cs t, Blk w k cs t) : MarksOk ds w' n0 :=
 h.chg hc (fun D hD _ hs => by
  obtain ⟨cs, t, hb⟩ := hS D hs
  unfold Blk at hb
  rw [hb] at hD; cases hD)
/-- What made made is a machine, and stays one when its box is filled. -/
theorem made_mach {st s0 : Int} {fz : Option Addr} {nz cz : Nat} (hO : Blk w bO #[y0, y1, .slice fz nz cz, y3] 25) (hF : w.ownsRow n0 3 1 (.slice fva fl.length fvc) fl.length (nums fl)) (hS : RowAt w w.heap.size aS (flat S)) (hSl : S.length ≤ maxLen) (hfl : fl.length ≤ maxLen) :
  MachAt w w.heap.size (.agg #[.int .i64 st, .int .i64 s0, .slice fva fl.length fvc, .slice aS S.length cS]) ⟨st, s0, fl, S⟩ ∧
  (∀ X, Chg (fun k => k = bO) w X → MachAt X X.heap.size (.agg #[.int .i64 st, .int .i64 s0, .slice fva fl.length fvc, .slice aS S.length cS]) ⟨st, s0, fl, S⟩) := by
 obtain ⟨a, c, e, -, hr⟩ := RowAt.of_own hF
 injection e with e1 e2 e3
 subst e1
 refine ⟨⟨_, _, _, _, rfl, hfl, hSl, hr, hS⟩, fun X hc => ?_⟩
 have hF' := own_chg hF hc (fun g e h => hO.own_ne hF (by decide) (by rw [← h]; exact e))
 obtain ⟨a', c', e', -, hr'⟩ := RowAt.of_own hF'
 injection e' with e1 e2 e3
 subst e1
 exact ⟨_, _, _, _, rfl, hfl, hSl, hr', (hS.chg hc (Nat.le_refl _) (fun h0 p hp => row_arc_ne hS hO h0 p hp)).more hc.size⟩
theorem OutAt.chg2 {S : Nat → Prop} {st s0 : Int} {al : List Arc} {fv av : Value} (h : OutAt w n0 bO st s0 fl al fv av) (hc : Chg S w w') (h1 : ¬ S bO) (h2 : ∀ g, fv.ownBlock = some g → ¬ S g) (h3 : ∀ g, av.ownBlock = some g → ¬ S g) : OutAt w' n0 bO st s0 fl al fv av :=
 ⟨h.blk.chg hc h1, own_chg h.fin hc h2, own_chg h.arc hc h3⟩
theorem OutAt.arc_step {st s0 : Int} {al : List Arc} {fv av v' : Value} {n1 : Nat} (h : OutAt w n0 bO st s0 fl al fv av) (hn : n0 ≤ bO) {x : Arc} (hb : Below w.heap.size w X) (hown : w'.ownsRow n0 40 4 v' (al.length + 1) (flat al ++ x.cells)) (hg : X.grownBy w' av.ownBlock) (hat : v'.ownBlock = av.ownBlock ∨ v'.ownBlock = some n1) (hn1 : w.heap.size ≤ n1) :
  OutAt (w'.setCell ⟨bO, 3, none⟩ v') n0 bO st s0 fl (al ++ [x]) fv v' ∧ Blk w' bO #[.int .i64 st, .int .i64 s0, fv, av] 25 ∧ (∀ b cs t, b ≠ bO → av.ownBlock ≠ some b → Blk w b cs t → Blk (w'.setCell ⟨bO, 3, none⟩ v') b cs t) ∧ Below n0 w (w'.setCell ⟨bO, 3, none⟩ v') ∧ (∀ g, v'.ownBlock = some g → av.ownBlock = some g ∨ w.heap.size ≤ g) := by
 obtain ⟨h1, h2⟩ := h.arc_more hb hown hg
 have hc : Chg (fun k => k = bO ∨ av.ownBlock = some k) w (w'.setCell ⟨bO, 3, none⟩ v') :=
  (((Chg.of_below _ hb).trans (Chg.of_grown hg (fun r hr => .inl (.inr hr))))).trans (Chg.setCell (S := fun k => k = bO ∨ av.ownBlock = some k) (p := ⟨bO, 3, none⟩) w' (.inl (.inl rfl)) _)
 refine ⟨h2, h1, fun b cs t hb1 hb2 hk => hk.chg hc (fun e => e.elim hb1 hb2), hc.below (fun k hk => ?_) (by have := h.blk.lt; omega), fun g hg' => ?_⟩
 ·rcases hk with rfl | hk
  ·exact hn
  ·exact (h.arc.lt k hk).1
 ·rcases hat with e | e
  ·left; rw [← e]; exact hg'
  ·right; rw [e] at hg'; injection hg' with hg'; omega
theorem OutAt.fin_step {st s0 : Int} {al : List Arc} {fv av v' : Value} (h : OutAt w n0 bO st s0 fl al fv av) (hn : n0 ≤ bO) {x : Int} (hb : Below w.heap.size w X) (hown : w'.ownsRow n0 3 1 v' (fl.length + 1) (nums fl ++ [.int .i64 x])) (hg : X.grownBy w' fv.ownBlock) :
  OutAt (w'.setCell ⟨bO, 2, none⟩ v') n0 bO st s0 (fl ++ [x]) al v' av ∧ Blk w' bO #[.int .i64 st, .int .i64 s0, fv, av] 25 ∧ (∀ b cs t, b ≠ bO → fv.ownBlock ≠ some b → Blk w b cs t → Blk (w'.setCell ⟨bO, 2, none⟩ v') b cs t) ∧ Below n0 w (w'.setCell ⟨bO, 2, none⟩ v') := by
 obtain ⟨h1, h2⟩ := h.fin_more hb hown hg
 have hc : Chg (fun k => k = bO ∨ fv.ownBlock = some k) w (w'.setCell ⟨bO, 2, none⟩ v') :=
  (((Chg.of_below _ hb).trans (Chg.of_grown hg (fun r hr => .inl (.inr hr))))).trans (Chg.setCell (S := fun k => k = bO ∨ fv.ownBlock = some k) (p := ⟨bO, 2, none⟩) w' (.inl (.inl rfl)) _)
 refine ⟨h2, h1, fun b cs t hb1 hb2 hk => hk.chg hc (fun e => e.elim hb1 hb2), hc.below (fun k hk => ?_) (by have := h.blk.lt; omega)⟩
 rcases hk with rfl | hk
 ·exact hn
 ·exact (h.fin.lt k hk).1
/-- A return of a machine and an error, with marks. -/
theorem mach_ret {F : Fence} {n : Nat} {P : Program} {fn : Func} {tmps : Array Value} {R : Ending → World → Prop} {ds : List Deferred} {err : Int} (hbR : Blk Y bR #[v0, v1, v2, v3] t) (hmk : MarksOk ds Y n0) (hm : MachAt Y Y.heap.size (.agg #[v0, v1, v2, v3]) C) (hb : Below w.heap.size w Y) (hn : w.heap.size ≤ n0)
  (hr : ∀ W', W'.cell? ⟨bR, 0, none⟩ = some v0 → W'.cell? ⟨bR, 1, none⟩ = some v1 → W'.cell? ⟨bR, 2, none⟩ = some v2 → W'.cell? ⟨bR, 3, none⟩ = some v3 → (results fn tmps).run P W' = .ok (.tuple #[.agg #[v0, v1, v2, v3], .int .i64 err]) W')
  (hR : ∀ W', MachAt W' W'.heap.size (.agg #[v0, v1, v2, v3]) C → Below w.heap.size w W' → R (.returned (.tuple #[.agg #[v0, v1, v2, v3], .int .i64 err])) W') : bodyPostM F n P fn R .ret { tmps := tmps, defers := ds } Y :=
 ret_marks hmk (fun W' Ds hD hc => by
  have hb' : Blk W' bR #[v0, v1, v2, v3] t := hbR.chg hc (fun h => by
   have h1 := (hD _ h).2
   unfold Blk at hbR
   rw [hbR] at h1; cases h1)
  exact ⟨hr W' (hb'.cell 0) (hb'.cell 1) (hb'.cell 2) (hb'.cell 3), hR W' (hm.marks (fun D h => (hD D h).2) hc) (hb.trans (hc.below (fun k hk => by have := (hD k hk).1; omega) hb.size))⟩)
end
end Go.Proofs.YtfihjpffjdnahaaGreatDoor

/- Walk: compose.Copy's closure lead. -/
namespace Go.Proofs.YtfihjpffjdnahaaGreatDoor
open Go.RowKit Classical

set_option maxRecDepth 100000 in
set_option maxHeartbeats 1000000 in
theorem lead_any (bO n0 : Nat) (st s0 : Int) (fl : List Int) (al : List Arc) (fv av : Value) (f t : Int) (c : UInt8) (w : World) (hn : n0 ≤ bO) (hll : al.length ≤ 1000000000) (h : OutAt w n0 bO st s0 fl al fv av) :
  Calls Tryz.prog 32 #[.int .i64 f, .int .i64 t, .int .u8 (c.toNat : Nat), .pointer (some ⟨bO, 0, none⟩)] w (fun e w' => e = .returned (.tuple #[]) ∧ ∃ av', OutAt w' n0 bO st s0 fl (al ++ [⟨f, c.toNat, c.toNat, t⟩]) fv av' ∧ Below n0 w w' ∧ (∀ b cs t, b ≠ bO → av.ownBlock ≠ some b → Blk w b cs t → Blk w' b cs t)) := by
 obtain ⟨ava, avc, rfl, -, -⟩ := RowAt.of_own h.arc
 obtain ⟨j0, hj, hj0, hj1, hj2⟩ := info_parts info_arc
 have y3 : w.cell? ⟨bO, 3, none⟩ = some (.slice ava al.length avc) := h.blk.cell 3
 have hlt := h.blk.lt
 have hc8 : c.toNat < 256 := c.toNat_lt
 have e1 : IntKind.i64.wrap ((c.toNat : Nat) : Int) = (c.toNat : Nat) := IntWalk.i64_in _ (by omega)
 have H := Lib.hid h
 clear h
 go_enter Tryz.func32, Tryz.ntmps32
 go_wp2_with (at_builtin; refine wpList_append_own_at _ rfl _ _ 23 rfl n0 40 j0 _ 4 32 Tryz.underlying23 hj hj0 hj1 hj2 rfl (by decide) _ _ _ rfl (World.ownsRow.alloc H.out.arc _) ⟨w.heap.size, 0, none⟩ 1 1 [.int .i64 f, .int .i64 (c.toNat : Nat), .int .i64 (c.toNat : Nat), .int .i64 t] rfl rfl (by exact cells_new _ _ _) (by simp [Value.oneCell']) (by unfold maxLen; omega) (by omega) (by simp; omega) ?_)
 intro v9 w9 hown9 hgrow9 _ hat9
 obtain ⟨va9, vc9, rfl, -, -⟩ := RowAt.of_own hown9
 obtain ⟨s1, s2, s3, s4, -⟩ := H.out.arc_step hn (x := ⟨f, c.toNat, c.toNat, t⟩) ((Below.refl _ _).alloc (Nat.le_refl _) _) hown9 hgrow9 hat9 (by simp)
 have y3' : w9.cell? ⟨bO, 3, none⟩ = some (.slice ava al.length avc) := s2.cell 3
 have f3 := s2.frozen 3
 have HS := Lib.hid (And.intro s1 (And.intro s4 s3))
 clear y3 hown9 hgrow9 hat9 s1 s2 s3 s4
 go_wp2_with fail
 refine bodyPost_end (v := .tuple #[]) (by simp [results, Tryz.results32, go_sem]) rfl ?_
 exact ⟨rfl, _, HS.out.1, HS.out.2.1, HS.out.2.2⟩
end Go.Proofs.YtfihjpffjdnahaaGreatDoor
