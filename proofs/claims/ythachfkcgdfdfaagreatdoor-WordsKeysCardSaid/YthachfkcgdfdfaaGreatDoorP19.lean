/- GF · UC · DC · UF · BU · BQ -/
import Derived.Test.YthachfkcgdfdfaaGreatDoorP18
import Derived.Maps.AppendAt
import Derived.RangeFuncNested
import Derived.RangeFuncBound
import Derived.RangeFuncCalls
import Derived.RangeFuncLeaves
import Derived.RangeFuncWrites
/- F1 · LW -/
/- Walk: what the law asks of its rules (gazetteerref13.Few). -/
namespace Go.Proofs.YthachfkcgdfdfaaGreatDoor
open Go.RowKit Classical

end Go.Proofs.YthachfkcgdfdfaaGreatDoor

/- Walk: the law CompileMatchesReference, over what its head answers. -/
namespace Go.Proofs.YthachfkcgdfdfaaGreatDoor
open Go.RowKit Classical

end Go.Proofs.YthachfkcgdfdfaaGreatDoor
/- Plain words: the laws of spelled lists: replacing a word, further abbreviations, joining. No program in sight. -/
namespace Go.Proofs.YthachfkcgdfdfaaGreatDoor
open Go Classical

section
variable {Cs Ds : List (List (ByteArray × Int))} {ps qs : List (ByteArray × Int)}
theorem prodN_append : ∀ (Cs Ds : List (List (ByteArray × Int))), prodN (Cs ++ Ds) = prodN Cs * prodN Ds
 | [], Ds => by show prodN Ds = 1 * prodN Ds; rw [Nat.one_mul]
 | C :: Cs, Ds => by
  show C.length * prodN (Cs ++ Ds) = C.length * prodN Cs * prodN Ds
  rw [prodN_append Cs Ds, Nat.mul_assoc]
theorem prodN_cons (C : List (ByteArray × Int)) (Cs : List (List (ByteArray × Int))) : prodN (C :: Cs) = C.length * prodN Cs := rfl
/-- Rows of choices that are alike but for their order. -/
theorem picks_congr {α : Type} {f g : α → List (ByteArray × Int)} : ∀ {W : List α} {ps : List (ByteArray × Int)}, (∀ w ∈ W, ∀ p, p ∈ f w → p ∈ g w) → Picks (W.map f) ps → Picks (W.map g) ps
 | [], ps, _, h => h
 | w :: W, ps, hfg, h => by
  rw [List.map_cons] at h ⊢
  cases h with
  | cons hp hs => exact .cons (hfg w (List.mem_cons_self ..) _ hp) (picks_congr (fun v hv => hfg v (List.mem_cons_of_mem _ hv)) hs)
theorem prodN_congr {α : Type} {f g : α → List (ByteArray × Int)} : ∀ {W : List α}, (∀ w ∈ W, (f w).length = (g w).length) → prodN (W.map f) = prodN (W.map g)
 | [], _ => rfl
 | w :: W, h => by
  rw [List.map_cons, List.map_cons, prodN_cons, prodN_cons, h w (List.mem_cons_self ..), prodN_congr (fun v hv => h v (List.mem_cons_of_mem _ hv))]
end
section
variable {l m : List Sht} {W V : List ByteArray}
theorem cost_pos (h : Proper l) {w t : ByteArray} {c : Int} (hc : CostIn l w t c) : 0 ≤ c := by
 rcases hc with ⟨_, rfl⟩ | ⟨s, hs, _, _, rfl⟩
 ·omega
 ·exact (h.each s hs).2.2.2.1
theorem chs_own (h : Proper l) (w : ByteArray) : (w, 0) ∈ chs l w := ((chs_is l w).mem w 0).2 ⟨.inl ⟨rfl, rfl⟩, fun _ hd => cost_pos h hd⟩
theorem chs_len (h : Proper l) (w : ByteArray) : 1 ≤ (chs l w).length := List.length_pos_of_mem (chs_own h w)
variable {all : List (List ByteArray × Int)}
/-- Abbreviations with the same costs. -/
theorem SpellOf.same {a b : List (List ByteArray × Int)} {e f : Int} (hc : ∀ w t c, CostIn l w t c ↔ CostIn m w t c) (hp : Proper l ↔ Proper m) (h : SpellOf l W a e) (k : SpellOf m W b f) : a = b ∧ e = f := by
 have hperm : ∀ w, (chs l w).Perm (chs m w) := fun w => (chs_is l w).perm ((chs_is m w).congr (fun t c => (hc w t c).symm))
 have hN : prodN (chsW l W) = prodN (chsW m W) := prodN_congr (fun w _ => (hperm w).length_eq)
 have hP : ∀ ps, Picks (chsW l W) ps ↔ Picks (chsW m W) ps := fun ps => ⟨picks_congr (fun w _ p hp => (hperm w).mem_iff.1 hp), picks_congr (fun w _ p hp => (hperm w).mem_iff.2 hp)⟩
 unfold SpellOf at h k
 rw [← hp, ← hN] at k
 rcases h with ⟨h1, rfl, rfl⟩ | ⟨h1, h2, rfl, rfl⟩ | ⟨h1, h2, rfl, h4, _, h5⟩ <;> rcases k with ⟨k1, rfl, rfl⟩ | ⟨k1, k2, rfl, rfl⟩ | ⟨k1, k2, rfl, k4, _, k5⟩
 ·exact ⟨rfl, rfl⟩
 ·exact absurd k1 h1
 ·exact absurd k1 h1
 ·exact absurd h1 k1
 ·exact ⟨rfl, rfl⟩
 ·omega
 ·exact absurd h1 k1
 ·omega
 ·refine ⟨h4.ext k4 (fun x => ?_), rfl⟩
  rw [h5, k5]
  exact ⟨fun ⟨ps, h, e⟩ => ⟨ps, (hP ps).1 h, e⟩, fun ⟨ps, h, e⟩ => ⟨ps, (hP ps).2 h, e⟩⟩
end
end Go.Proofs.YthachfkcgdfdfaaGreatDoor
/- D6a · D6b · D7 -/
/- A machine that is being made: its box, its rows of final states and arcs. -/
namespace Go.Proofs.YthachfkcgdfdfaaGreatDoor
open Go.RowKit Classical

structure OutAt (w : World) (n0 bO : Nat) (st s0 : Int) (fl : List Int) (al : List Arc) (fv av : Value) : Prop where
 blk : Blk w bO #[.int .i64 st, .int .i64 s0, fv, av] 96
 fin : w.ownsRow n0 3 1 fv fl.length (nums fl)
 arc : arcRow w n0 av al
section
variable {w w' X : World} {n0 bO : Nat} {st s0 : Int} {fl : List Int} {al : List Arc} {fv av v' : Value}
/-- An arc more. -/
theorem OutAt.arc_more (h : OutAt w n0 bO st s0 fl al fv av) {x : Arc} (hb : Below w.heap.size w X) (hown : w'.ownsRow n0 177 4 v' (al.length + 1) (flat al ++ x.cells)) (hg : X.grownBy w' av.ownBlock) :
  Blk w' bO #[.int .i64 st, .int .i64 s0, fv, av] 96 ∧ OutAt (w'.setCell ⟨bO, 3, none⟩ v') n0 bO st s0 fl (al ++ [x]) fv v' := by
 have hr := own_below h.arc hb
 have hb' : Blk w' bO #[.int .i64 st, .int .i64 s0, fv, av] 96 := (h.blk.below hb h.blk.lt).grown hg (fun e => (h.blk.below hb h.blk.lt).own_ne hr (by decide) e.symm)
 have hf' : w'.ownsRow n0 3 1 fv fl.length (nums fl) := own_kept_other (own_below h.fin hb) hr (by decide) hg
 refine ⟨hb', ?_, own_setCell hf' (p := ⟨bO, 3, none⟩) (hb'.own_ne hf' (by decide)) _, ?_⟩
 ·have := hb'.set_ 3 v'; simpa using this
 ·have := own_setCell hown (p := ⟨bO, 3, none⟩) (hb'.own_ne hown (by decide)) v'
  unfold arcRow
  rw [List.length_append, flat_append, flat_one]
  exact this
end
theorem zero_mach (w : World) (B : Nat) : MachAt w B (.agg #[.int .i64 0, .int .i64 0, .slice none 0 0, .slice none 0 0]) zeroM :=
 ⟨none, 0, none, 0, rfl, by simp [zeroM], by simp [zeroM], fun h => by simp [nums, zeroM] at h, fun h => by simp [flat, zeroM] at h⟩
end Go.Proofs.YthachfkcgdfdfaaGreatDoor

/- A machine that is made: stored, trimmed, returned. -/
namespace Go.Proofs.YthachfkcgdfdfaaGreatDoor
open Go.RowKit Classical

section
variable {w w' X Y : World} {n0 b bO bR B : Nat} {t : TypeId} {x0 x1 x3 y0 y1 y2 y3 v0 v1 v2 v3 : Value} {fa fva aS : Option Addr} {fl' fc fvc cS : Nat} {S : List Arc} {fl : List Int} {C : Mach}
theorem row_arc_ne {a : Option Addr} (h : RowAt w B a (flat S)) (hb : Blk w b #[x0, x1, .slice fa fl' fc, x3] t) (h0 : 0 < (flat S).length) (p : Addr) (hp : a = some p) : ¬ p.block = b := by
 intro e
 have hn : 0 < S.length := by rw [flat_length] at h0; omega
 obtain ⟨b', off, e', _, hx⟩ := h.arcs hn
 rw [hp] at e'
 injection e' with e'
 subst e'
 simp only at e
 subst e
 obtain ⟨h1, h2, h3, h4⟩ := hx 0 hn
 rw [hb.cell] at h3 h4
 have hof : off = 0 := by
  have := (Array.getElem?_eq_some_iff.1 h4).1
  simp at this
  omega
 subst hof
 simp at h3
theorem fill_chg (w : World) (b : Nat) (v0 v1 v2 v3 : Value) : Chg (fun k => k = b) w ((((w.setCell ⟨b, 0, none⟩ v0).setCell ⟨b, 1, none⟩ v1).setCell ⟨b, 2, none⟩ v2).setCell ⟨b, 3, none⟩ v3) :=
 (((Chg.setCell (S := fun k => k = b) (p := ⟨b, 0, none⟩) w (.inl rfl) v0).trans (Chg.setCell (S := fun k => k = b) (p := ⟨b, 1, none⟩) _ (.inl rfl) v1)).trans (Chg.setCell (S := fun k => k = b) (p := ⟨b, 2, none⟩) _ (.inl rfl) v2)).trans (Chg.setCell (S := fun k => k = b) (p := ⟨b, 3, none⟩) _ (.inl rfl) v3)
/-- What made made is a machine, and stays one when its box is filled. -/
theorem made_mach {st s0 : Int} {fz : Option Addr} {nz cz : Nat} (hO : Blk w bO #[y0, y1, .slice fz nz cz, y3] 96) (hF : w.ownsRow n0 3 1 (.slice fva fl.length fvc) fl.length (nums fl)) (hS : RowAt w w.heap.size aS (flat S)) (hSl : S.length ≤ maxLen) (hfl : fl.length ≤ maxLen) :
  MachAt w w.heap.size (.agg #[.int .i64 st, .int .i64 s0, .slice fva fl.length fvc, .slice aS S.length cS]) ⟨st, s0, fl, S⟩ ∧
  (∀ X, Chg (fun k => k = bO) w X → MachAt X X.heap.size (.agg #[.int .i64 st, .int .i64 s0, .slice fva fl.length fvc, .slice aS S.length cS]) ⟨st, s0, fl, S⟩) := by
 obtain ⟨a, c, e, -, hr⟩ := RowAt.of_own hF
 injection e with e1 e2 e3
 subst e1
 refine ⟨⟨_, _, _, _, rfl, hfl, hSl, hr, hS⟩, fun X hc => ?_⟩
 have hF' := own_chg hF hc (fun g e h => hO.own_ne hF (by decide) (by rw [← h]; exact e))
 obtain ⟨a', c', e', -, hr'⟩ := RowAt.of_own hF'
 injection e' with e1 e2 e3
 subst e1
 exact ⟨_, _, _, _, rfl, hfl, hSl, hr', (hS.chg hc (Nat.le_refl _) (fun h0 p hp => row_arc_ne hS hO h0 p hp)).more hc.size⟩
theorem OutAt.arc_step {st s0 : Int} {al : List Arc} {fv av v' : Value} {n1 : Nat} (h : OutAt w n0 bO st s0 fl al fv av) (hn : n0 ≤ bO) {x : Arc} (hb : Below w.heap.size w X) (hown : w'.ownsRow n0 177 4 v' (al.length + 1) (flat al ++ x.cells)) (hg : X.grownBy w' av.ownBlock) (hat : v'.ownBlock = av.ownBlock ∨ v'.ownBlock = some n1) (hn1 : w.heap.size ≤ n1) :
  OutAt (w'.setCell ⟨bO, 3, none⟩ v') n0 bO st s0 fl (al ++ [x]) fv v' ∧ Blk w' bO #[.int .i64 st, .int .i64 s0, fv, av] 96 ∧ (∀ b cs t, b ≠ bO → av.ownBlock ≠ some b → Blk w b cs t → Blk (w'.setCell ⟨bO, 3, none⟩ v') b cs t) ∧ Below n0 w (w'.setCell ⟨bO, 3, none⟩ v') ∧ (∀ g, v'.ownBlock = some g → av.ownBlock = some g ∨ w.heap.size ≤ g) := by
 obtain ⟨h1, h2⟩ := h.arc_more hb hown hg
 have hc : Chg (fun k => k = bO ∨ av.ownBlock = some k) w (w'.setCell ⟨bO, 3, none⟩ v') :=
  (((Chg.of_below _ hb).trans (Chg.of_grown hg (fun r hr => .inl (.inr hr))))).trans (Chg.setCell (S := fun k => k = bO ∨ av.ownBlock = some k) (p := ⟨bO, 3, none⟩) w' (.inl (.inl rfl)) _)
 refine ⟨h2, h1, fun b cs t hb1 hb2 hk => hk.chg hc (fun e => e.elim hb1 hb2), hc.below (fun k hk => ?_) (by have := h.blk.lt; omega), fun g hg' => ?_⟩
 ·rcases hk with rfl | hk
  ·exact hn
  ·exact (h.arc.lt k hk).1
 ·rcases hat with e | e
  ·left; rw [← e]; exact hg'
  ·right; rw [e] at hg'; injection hg' with hg'; omega
end
end Go.Proofs.YthachfkcgdfdfaaGreatDoor

/- Walk: compose.Copy's closure lead. -/
namespace Go.Proofs.YthachfkcgdfdfaaGreatDoor
open Go.RowKit Classical

set_option maxRecDepth 100000 in
set_option maxHeartbeats 1000000 in
theorem lead_any (bO n0 : Nat) (st s0 : Int) (fl : List Int) (al : List Arc) (fv av : Value) (f t : Int) (c : UInt8) (w : World) (hn : n0 ≤ bO) (hll : al.length ≤ 1000000000) (h : OutAt w n0 bO st s0 fl al fv av) :
  Calls Tryz.prog 153 #[.int .i64 f, .int .i64 t, .int .u8 (c.toNat : Nat), .pointer (some ⟨bO, 0, none⟩)] w (fun e w' => e = .returned (.tuple #[]) ∧ ∃ av', OutAt w' n0 bO st s0 fl (al ++ [⟨f, c.toNat, c.toNat, t⟩]) fv av' ∧ Below n0 w w' ∧ (∀ b cs t, b ≠ bO → av.ownBlock ≠ some b → Blk w b cs t → Blk w' b cs t)) := by
 obtain ⟨ava, avc, rfl, -, -⟩ := RowAt.of_own h.arc
 obtain ⟨j0, hj, hj0, hj1, hj2⟩ := info_parts info_arc
 have y3 : w.cell? ⟨bO, 3, none⟩ = some (.slice ava al.length avc) := h.blk.cell 3
 have hlt := h.blk.lt
 have hc8 : c.toNat < 256 := c.toNat_lt
 have e1 : IntKind.i64.wrap ((c.toNat : Nat) : Int) = (c.toNat : Nat) := IntWalk.i64_in _ (by omega)
 have H := Lib.hid h
 clear h
 go_enter Tryz.func153, Tryz.ntmps153
 go_wp2_with (at_builtin; refine wpList_append_own_at _ rfl _ _ 94 rfl n0 177 j0 _ 4 32 Tryz.underlying94 hj hj0 hj1 hj2 rfl (by decide) _ _ _ rfl (World.ownsRow.alloc H.out.arc _) ⟨w.heap.size, 0, none⟩ 1 1 [.int .i64 f, .int .i64 (c.toNat : Nat), .int .i64 (c.toNat : Nat), .int .i64 t] rfl rfl (by exact cells_new _ _ _) (by simp [Value.oneCell']) (by unfold maxLen; omega) (by omega) (by simp; omega) ?_)
 intro v9 w9 hown9 hgrow9 _ hat9
 obtain ⟨va9, vc9, rfl, -, -⟩ := RowAt.of_own hown9
 obtain ⟨s1, s2, s3, s4, -⟩ := H.out.arc_step hn (x := ⟨f, c.toNat, c.toNat, t⟩) ((Below.refl _ _).alloc (Nat.le_refl _) _) hown9 hgrow9 hat9 (by simp)
 have y3' : w9.cell? ⟨bO, 3, none⟩ = some (.slice ava al.length avc) := s2.cell 3
 have f3 := s2.frozen 3
 have HS := Lib.hid (And.intro s1 (And.intro s4 s3))
 clear y3 hown9 hgrow9 hat9 s1 s2 s3 s4
 go_wp2_with fail
 refine bodyPost_end (v := .tuple #[]) (by simp [results, Tryz.results153, go_sem]) rfl ?_
 exact ⟨rfl, _, HS.out.1, HS.out.2.1, HS.out.2.2⟩
end Go.Proofs.YthachfkcgdfdfaaGreatDoor
/- Plain words: the least costs of changes, gathered one by one; the choices of words out of them. No program in sight. -/
namespace Go.Proofs.YthachfkcgdfdfaaGreatDoor
open Go Classical

/-- A cost of a change, by words and abbreviations. -/
def CIn (V : List ByteArray) (m : List Sht) (k : ByteArray × ByteArray) (c : Int) : Prop := (k.1 ∈ V ∧ k.2 = k.1 ∧ c = 0) ∨ ∃ s ∈ m, s.short = k.1 ∧ s.full = k.2 ∧ s.cost = c
/-- The least costs of a set of changes. -/
structure CostM (S : ByteArray × ByteArray → Int → Prop) (es : List ((ByteArray × ByteArray) × Int)) : Prop where
 nodup : (es.map (·.1)).Nodup
 mem : ∀ k c, (k, c) ∈ es ↔ Least (S k) c
 ex : ∀ k c, S k c → ∃ d, Least (S k) d
theorem CostM.start : CostM (fun _ _ => False) [] := ⟨by simp, fun k c => ⟨fun h => (by cases h), fun h => h.1.elim⟩, fun _ _ h => h.elim⟩
theorem CostM.congr {S T : ByteArray × ByteArray → Int → Prop} {es : List ((ByteArray × ByteArray) × Int)} (h : CostM S es) (hST : ∀ k c, S k c ↔ T k c) : CostM T es := by
 have : S = T := funext fun k => funext fun c => propext (hST k c)
 rw [← this]; exact h
noncomputable def setE (es : List ((ByteArray × ByteArray) × Int)) (k : ByteArray × ByteArray) (c : Int) : List ((ByteArray × ByteArray) × Int) := es.map (fun p => if p.1 = k then (k, c) else p)
theorem least_or {S : Int → Prop} {c m : Int} (h : Least S m) : Least (fun d => S d ∨ d = c) (min m c) := by
 refine ⟨?_, ?_⟩
 ·rcases Int.le_total m c with q | q
  ·rw [Int.min_eq_left q]; exact .inl h.1
  ·rw [Int.min_eq_right q]; exact .inr rfl
 ·rintro d (q | rfl)
  ·have := h.2 d q; omega
  ·omega
section
variable {S : ByteArray × ByteArray → Int → Prop} {es : List ((ByteArray × ByteArray) × Int)} {k0 : ByteArray × ByteArray} {c0 d : Int}
theorem CostM.ex_put (h : CostM S es) (k0 : ByteArray × ByteArray) (c0 : Int) : ∀ k c, (S k c ∨ (k = k0 ∧ c = c0)) → ∃ d, Least (fun c => S k c ∨ (k = k0 ∧ c = c0)) d := by
 intro k c hc
 by_cases hk : k = k0
 ·subst hk
  by_cases hS : ∃ c', S k c'
  ·obtain ⟨c', hc'⟩ := hS
   obtain ⟨m, hm⟩ := h.ex k c' hc'
   refine ⟨_, ((least_or hm (c := c0)) : Least (fun d => S k d ∨ d = c0) _).1.elim (fun q => .inl q) (fun q => .inr ⟨rfl, q⟩), fun d hd => (least_or hm (c := c0)).2 d (hd.elim .inl (fun q => .inr q.2))⟩
  ·exact ⟨c0, .inr ⟨rfl, rfl⟩, fun d hd => hd.elim (fun q => absurd ⟨d, q⟩ hS) (fun q => by rw [q.2]; exact Int.le_refl _)⟩
 ·rcases hc with hc | hc
  ·obtain ⟨m, hm⟩ := h.ex k c hc
   exact ⟨m, .inl hm.1, fun d hd => hd.elim (hm.2 d) (fun q => absurd q.1 hk)⟩
  ·exact absurd hc.1 hk
theorem CostM.put_new (h : CostM S es) (hno : ∀ p ∈ es, p.1 ≠ k0) : CostM (fun k c => S k c ∨ (k = k0 ∧ c = c0)) (es ++ [(k0, c0)]) := by
 have hS : ∀ c, ¬ S k0 c := fun c hc => by
  obtain ⟨m, hm⟩ := h.ex k0 c hc
  exact hno _ ((h.mem k0 m).2 hm) rfl
 refine ⟨?_, fun k c => ?_, h.ex_put k0 c0⟩
 ·rw [List.map_append]
  refine List.nodup_append.2 ⟨h.nodup, by simp, fun a ha b hb e => ?_⟩
  obtain ⟨p, hp, rfl⟩ := List.mem_map.1 ha
  have : b = k0 := by simpa using hb
  exact hno p hp (e.trans this)
 ·rw [List.mem_append, List.mem_singleton, Prod.mk.injEq, h.mem]
  constructor
  ·rintro (q | ⟨rfl, rfl⟩)
   ·refine ⟨.inl q.1, fun d hd => hd.elim (q.2 d) (fun r => ?_)⟩
    exact absurd (r.1 ▸ q.1) (hS c)
   ·exact ⟨.inr ⟨rfl, rfl⟩, fun d hd => hd.elim (fun r => absurd r (hS d)) (fun r => by rw [r.2]; exact Int.le_refl _)⟩
  ·rintro ⟨q | q, h2⟩
   ·exact .inl ⟨q, fun d hd => h2 d (.inl hd)⟩
   ·exact .inr q
theorem CostM.put_old (h : CostM S es) (hin : (k0, d) ∈ es) (hle : c0 ≤ d) : CostM (fun k c => S k c ∨ (k = k0 ∧ c = c0)) (setE es k0 c0) := by
 have hd := (h.mem k0 d).1 hin
 refine ⟨?_, fun k c => ?_, h.ex_put k0 c0⟩
 ·have : (setE es k0 c0).map (·.1) = es.map (·.1) := by
   unfold setE
   rw [List.map_map]
   refine List.map_congr_left (fun p _ => ?_)
   simp only [Function.comp_apply]
   split
   ·rename_i e; exact e.symm
   ·rfl
  rw [this]; exact h.nodup
 ·unfold setE
  rw [List.mem_map]
  constructor
  ·rintro ⟨⟨p1, p2⟩, hp, e⟩
   have hp' := (h.mem p1 p2).1 hp
   split at e
   ·obtain ⟨rfl, rfl⟩ := Prod.mk.inj e
    refine ⟨.inr ⟨rfl, rfl⟩, fun d' hd' => hd'.elim (fun r => ?_) (fun r => by rw [r.2]; exact Int.le_refl _)⟩
    have := hd.2 d' r; omega
   ·rename_i e1
    obtain ⟨rfl, rfl⟩ := Prod.mk.inj e
    exact ⟨.inl hp'.1, fun d' hd' => hd'.elim (hp'.2 d') (fun r => absurd r.1 e1)⟩
  ·rintro ⟨q, h2⟩
   by_cases e : k = k0
   ·subst e
    refine ⟨(k, d), hin, ?_⟩
    simp only [if_pos, Prod.mk.injEq, true_and]
    have h3 := h2 c0 (.inr ⟨rfl, rfl⟩)
    rcases q with q | ⟨_, q⟩
    ·have := hd.2 c q; omega
    ·exact q.symm
   ·refine ⟨(k, c), (h.mem k c).2 ⟨q.resolve_right (fun r => e r.1), fun d' hd' => h2 d' (.inl hd')⟩, ?_⟩
    rw [if_neg e]
theorem CostM.keep (h : CostM S es) (hin : (k0, d) ∈ es) (hle : d ≤ c0) : CostM (fun k c => S k c ∨ (k = k0 ∧ c = c0)) es := by
 have hd := (h.mem k0 d).1 hin
 refine ⟨h.nodup, fun k c => ?_, h.ex_put k0 c0⟩
 rw [h.mem]
 constructor
 ·rintro ⟨q, h2⟩
  refine ⟨.inl q, fun d' hd' => hd'.elim (h2 d') (fun r => ?_)⟩
  obtain ⟨rfl, rfl⟩ := r
  have := h2 d hd.1; omega
 ·rintro ⟨q, h2⟩
  refine ⟨?_, fun d' hd' => h2 d' (.inl hd')⟩
  rcases q with q | ⟨rfl, rfl⟩
  ·exact q
  ·have := h2 d (.inl hd.1)
   have : d = c := by omega
   rw [← this]; exact hd.1
/-- What is known of a change: not there, or there at a cost. -/
theorem CostM.look (_ : CostM S es) (k : ByteArray × ByteArray) : (∀ p ∈ es, p.1 ≠ k) ∨ ∃ d, (k, d) ∈ es := by
 by_cases h : ∃ p ∈ es, p.1 = k
 ·obtain ⟨⟨k', d⟩, hp, rfl⟩ := h
  exact .inr ⟨d, hp⟩
 ·exact .inl (fun p hp e => h ⟨p, hp, e⟩)
end
theorem cin_word (V : List ByteArray) (w : ByteArray) (k : ByteArray × ByteArray) (c : Int) : (CIn V [] k c ∨ (k = (w, w) ∧ c = 0)) ↔ CIn (V ++ [w]) [] k c := by
 obtain ⟨a, b⟩ := k
 simp only [CIn, List.mem_append, List.mem_singleton, Prod.mk.injEq, List.not_mem_nil, false_and, exists_false, or_false]
 constructor
 ·rintro (⟨h1, h2, h3⟩ | ⟨⟨rfl, rfl⟩, rfl⟩)
  ·exact ⟨.inl h1, h2, h3⟩
  ·exact ⟨.inr rfl, rfl, rfl⟩
 ·rintro ⟨h1 | rfl, h2, h3⟩
  ·exact .inl ⟨h1, h2, h3⟩
  ·exact .inr ⟨⟨rfl, h2⟩, h3⟩
theorem cin_short (V : List ByteArray) (m : List Sht) (s : Sht) (k : ByteArray × ByteArray) (c : Int) : (CIn V m k c ∨ (k = (s.short, s.full) ∧ c = s.cost)) ↔ CIn V (m ++ [s]) k c := by
 obtain ⟨a, b⟩ := k
 simp only [CIn, List.mem_append, List.mem_singleton, Prod.mk.injEq]
 constructor
 ·rintro ((h | ⟨x, hx, h⟩) | ⟨⟨rfl, rfl⟩, rfl⟩)
  ·exact .inl h
  ·exact .inr ⟨x, .inl hx, h⟩
  ·exact .inr ⟨s, .inr rfl, rfl, rfl, rfl⟩
 ·rintro (h | ⟨x, hx | rfl, h⟩)
  ·exact .inl (.inl h)
  ·exact .inl (.inr ⟨x, hx, h⟩)
  ·exact .inr ⟨⟨h.1.symm, h.2.1.symm⟩, h.2.2.symm⟩
/-- The cost that stands beside a change. -/
noncomputable def costOf (es : List ((ByteArray × ByteArray) × Int)) (k : ByteArray × ByteArray) : Int := if h : ∃ c, (k, c) ∈ es then Classical.choose h else 0
theorem costOf_mem {es : List ((ByteArray × ByteArray) × Int)} {k : ByteArray × ByteArray} {c : Int} (h : (k, c) ∈ es) : (k, costOf es k) ∈ es := by
 unfold costOf
 rw [dif_pos ⟨c, h⟩]
 exact Classical.choose_spec (⟨c, h⟩ : ∃ c, (k, c) ∈ es)
/-- What a word becomes, by the changes seen. -/
noncomputable def tosOf (ys : List (ByteArray × ByteArray)) (w : ByteArray) : List ByteArray := (ys.filter (fun k => decide (k.1 = w))).map (·.2)
theorem tosOf_snoc (ys : List (ByteArray × ByteArray)) (k : ByteArray × ByteArray) (w : ByteArray) : tosOf (ys ++ [k]) w = tosOf ys w ++ (if k.1 = w then [k.2] else []) := by
 unfold tosOf
 rw [List.filter_append, List.map_append]
 congr 1
 by_cases h : k.1 = w <;> simp [h]
/-- The choices of a word, with their costs. -/
noncomputable def rowOf (es : List ((ByteArray × ByteArray) × Int)) (ys : List (ByteArray × ByteArray)) (w : ByteArray) : List (ByteArray × Int) := (tosOf ys w).map (fun t => (t, costOf es (w, t)))
theorem rowOf_fst (es : List ((ByteArray × ByteArray) × Int)) (ys : List (ByteArray × ByteArray)) (w : ByteArray) : (rowOf es ys w).map (·.1) = tosOf ys w := by
 unfold rowOf
 rw [List.map_map]
 exact (List.map_congr_left (fun t _ => rfl)).trans (List.map_id _)
theorem mem_tosOf {ys : List (ByteArray × ByteArray)} {w t : ByteArray} : t ∈ tosOf ys w ↔ (w, t) ∈ ys := by
 unfold tosOf
 rw [List.mem_map]
 constructor
 ·rintro ⟨⟨a, b⟩, h, rfl⟩
  obtain ⟨h1, h2⟩ := List.mem_filter.1 h
  have : a = w := by simpa using h2
  subst this; exact h1
 ·intro h; exact ⟨(w, t), List.mem_filter.2 ⟨h, by simp⟩, rfl⟩
theorem rowOf_is {l : List Sht} {V : List ByteArray} {es : List ((ByteArray × ByteArray) × Int)} (h : CostM (CIn V l) es) {ys : List (ByteArray × ByteArray)} (hp : ys.Perm (es.map (·.1))) {w : ByteArray} (hw : w ∈ V) : ChI (CostIn l w) (rowOf es ys w) := by
 have hc : ∀ t c, CIn V l (w, t) c ↔ CostIn l w t c := fun t c => by
  unfold CIn CostIn
  exact or_congr ⟨fun q => q.2, fun q => ⟨hw, q⟩⟩ Iff.rfl
 have hS : ∀ t, CIn V l (w, t) = CostIn l w t := fun t => funext fun c => propext (hc t c)
 have hnd : ys.Nodup := hp.nodup_iff.2 h.nodup
 refine ⟨?_, fun t c => ?_⟩
 ·rw [rowOf_fst]
  unfold tosOf
  refine List.pairwise_map.2 ((hnd.sublist List.filter_sublist).imp_of_mem (fun {a b} ha hb hne e => hne ?_))
  have h1 : a.1 = w := by simpa using (List.mem_filter.1 ha).2
  have h2 : b.1 = w := by simpa using (List.mem_filter.1 hb).2
  exact Prod.ext (h1.trans h2.symm) e
 ·have hm := h.mem (w, t)
  rw [hS t] at hm
  rw [← hm]
  unfold rowOf
  rw [List.mem_map]
  constructor
  ·rintro ⟨t', ht, e⟩
   obtain ⟨rfl, rfl⟩ := Prod.mk.inj e
   obtain ⟨⟨k, d⟩, hd, e⟩ := List.mem_map.1 (hp.mem_iff.1 (mem_tosOf.1 ht))
   simp only at e
   subst e
   exact costOf_mem hd
  ·intro hin
   refine ⟨t, mem_tosOf.2 (hp.mem_iff.2 (List.mem_map.2 ⟨_, hin, rfl⟩)), ?_⟩
   exact Prod.ext rfl (((hm _).1 (costOf_mem hin)).uniq ((hm c).1 hin))
theorem exts_fst_nodup : ∀ (Cs : List (List (ByteArray × Int))) (s : List ByteArray) (c : Int), (∀ C ∈ Cs, (C.map (·.1)).Nodup) → ((exts Cs s c).map (·.1)).Nodup
 | [], s, c, _ => by simp [exts]
 | C :: Cs, s, c, h => by
  rw [exts, List.map_flatMap]
  refine List.pairwise_flatMap.2 ⟨fun p _ => exts_fst_nodup Cs _ _ (fun D hD => h D (List.mem_cons_of_mem _ hD)), ?_⟩
  have h1 := List.pairwise_map.1 (h C (List.mem_cons_self ..))
  refine h1.imp (fun {p q} hne x hx y hy e => hne ?_)
  obtain ⟨x', hx', rfl⟩ := List.mem_map.1 hx
  obtain ⟨y', hy', rfl⟩ := List.mem_map.1 hy
  obtain ⟨ps, _, rfl⟩ := mem_exts.1 hx'
  obtain ⟨qs, _, rfl⟩ := mem_exts.1 hy'
  simp only [List.append_assoc] at e
  have := List.append_cancel_left e
  exact (List.cons.inj (by simpa using this)).1
/-- The choices by the map of costs are those of the abbreviations, but for their order. -/
structure RowsOf (l : List Sht) (W : List ByteArray) (f : ByteArray → List (ByteArray × Int)) : Prop where
 each : ∀ w ∈ W, ChI (CostIn l w) (f w)
theorem RowsOf.perm {l : List Sht} {W : List ByteArray} {f : ByteArray → List (ByteArray × Int)} (h : RowsOf l W f) {w : ByteArray} (hw : w ∈ W) : (f w).Perm (chs l w) := (h.each w hw).perm (chs_is l w)
theorem RowsOf.prod {l : List Sht} {W : List ByteArray} {f : ByteArray → List (ByteArray × Int)} (h : RowsOf l W f) : prodN (W.map f) = prodN (chsW l W) := prodN_congr (fun _ hw => (h.perm hw).length_eq)
theorem RowsOf.picks {l : List Sht} {W : List ByteArray} {f : ByteArray → List (ByteArray × Int)} (h : RowsOf l W f) (ps : List (ByteArray × Int)) : Picks (W.map f) ps ↔ Picks (chsW l W) ps :=
 ⟨picks_congr (fun _ hw _ hp => (h.perm hw).mem_iff.1 hp), picks_congr (fun _ hw _ hp => (h.perm hw).mem_iff.2 hp)⟩
theorem RowsOf.cost {l : List Sht} (hl : Proper l) {W : List ByteArray} {f : ByteArray → List (ByteArray × Int)} (h : RowsOf l W f) : ∀ C ∈ W.map f, ∀ p ∈ C, 0 ≤ p.2 ∧ p.2 ≤ 1000 := by
 intro C hC p hp
 obtain ⟨w, hw, rfl⟩ := List.mem_map.1 hC
 rcases (((h.each w hw).mem p.1 p.2).1 hp).1 with ⟨_, h1⟩ | ⟨s, hs, _, _, h1⟩
 ·omega
 ·have := hl.each s hs; omega
theorem RowsOf.pos {l : List Sht} (hl : Proper l) {W : List ByteArray} {f : ByteArray → List (ByteArray × Int)} (h : RowsOf l W f) : ∀ w ∈ W, 1 ≤ (f w).length := fun w hw => by
 rw [(h.perm hw).length_eq]; exact chs_len hl w
theorem prod_le_of_pos : ∀ {Cs : List (List (ByteArray × Int))}, (∀ C ∈ Cs, 1 ≤ C.length) → 1 ≤ prodN Cs ∧ ∀ C ∈ Cs, C.length ≤ prodN Cs
 | [], _ => ⟨Nat.le_refl _, fun C h => by cases h⟩
 | D :: Cs, h => by
  obtain ⟨h1, h2⟩ := prod_le_of_pos (Cs := Cs) (fun C hC => h C (List.mem_cons_of_mem _ hC))
  have hD := h D (List.mem_cons_self ..)
  rw [prodN_cons]
  refine ⟨Nat.le_trans h1 (Nat.le_mul_of_pos_left _ hD), fun C hC => ?_⟩
  rcases List.mem_cons.1 hC with rfl | hC
  ·exact Nat.le_mul_of_pos_right _ h1
  ·exact Nat.le_trans (h2 C hC) (Nat.le_mul_of_pos_left _ hD)
theorem prodN_take_le {Cs : List (List (ByteArray × Int))} (h : ∀ C ∈ Cs, 1 ≤ C.length) (k : Nat) : prodN (Cs.take k) ≤ prodN Cs := by
 have h1 := prodN_append (Cs.take k) (Cs.drop k)
 rw [List.take_append_drop] at h1
 rw [h1]
 exact Nat.le_mul_of_pos_right _ (prod_le_of_pos (fun C hC => h C (List.mem_of_mem_drop hC))).1
theorem prodN_snoc (Cs : List (List (ByteArray × Int))) (C : List (ByteArray × Int)) : prodN (Cs ++ [C]) = prodN Cs * C.length := by
 rw [prodN_append]; simp [prodN]
/-- What Spell answers, by gathered and sorted spellings. -/
theorem spellOf_sorted {l : List Sht} {W : List ByteArray} (hl : Proper l) (hW : Plain W) {f : ByteArray → List (ByteArray × Int)} (h : RowsOf l W f) (hp : prodN (W.map f) ≤ 64) {all : List (List ByteArray × Int)} (hper : all.Perm (exts (W.map f) [] 0)) (hs : all.Pairwise (fun a b => ¬ ltX b a)) : SpellOf l W all 0 := by
 have hnd : ∀ C ∈ W.map f, (C.map (·.1)).Nodup := fun C hC => by
  obtain ⟨w, hw, rfl⟩ := List.mem_map.1 hC
  exact (h.each w hw).nodup
 have h1 : (all.map (·.1)).Nodup := (hper.map (·.1)).nodup_iff.2 (exts_fst_nodup _ _ _ hnd)
 have h2 : all.Pairwise (fun a b => a.1 ≠ b.1) := List.pairwise_map.1 h1
 refine .inr (.inr ⟨⟨hl, hW⟩, by rw [← h.prod]; exact hp, rfl, ?_, ?_, fun x => ?_⟩)
 ·refine (hs.and h2).imp (fun {a b} q => ?_)
  rcases ltX_tri a b with r | r | r
  ·exact r
  ·exact absurd (congrArg Prod.fst r) q.2
  ·exact absurd r q.1
 ·rw [hper.length_eq, exts_length, h.prod]
 ·rw [hper.mem_iff, mem_exts]
  constructor
  ·rintro ⟨ps, hps, rfl⟩; exact ⟨ps, (h.picks ps).1 hps, by simp⟩
  ·rintro ⟨ps, hps, rfl⟩; exact ⟨ps, (h.picks ps).2 hps, by simp⟩
end Go.Proofs.YthachfkcgdfdfaaGreatDoor
/- Walks: the maps of words.Spell: costs of changes, what words become. -/
namespace Go.Proofs.YthachfkcgdfdfaaGreatDoor
open Go.RowKit Classical

theorem zero_strs (w : World) : (zeroValue 29).run Tryz.prog w = .ok (.slice none 0 0) w := by kernel_rfl
theorem zero_int17 (w : World) : (zeroValue 3).run Tryz.prog w = .ok (.int .i64 0) w := by kernel_rfl
/-- A change, as a key. -/
def chV (x : ByteArray × ByteArray) : Value := .agg #[.string x.1, .string x.2]
def OkCh (v : Value) : Prop := ∃ x, v = chV x
theorem chV_inj {x y : ByteArray × ByteArray} (h : chV x = chV y) : x = y := by
 cases x; cases y; simpa [chV] using h
theorem chV_eq {x y : ByteArray × ByteArray} : chV x = chV y ↔ x = y := ⟨chV_inj, fun h => by rw [h]⟩
theorem eql_ch (x y : ByteArray × ByteArray) (w : World) : (binOp .eql 69 (.agg #[.string x.1, .string x.2]) (.agg #[.string y.1, .string y.2])).run Tryz.prog w = .ok (.bool (decide (x = y))) w := by
 have hS : Tryz.prog.underlying 69 = some (.struct (Tryz.prog.fieldsOf 69)) := by kernel_rfl
 have hp : Tryz.prog.stoodInHeld 69 = false := by kernel_rfl
 rw [run_eql_struct, show (10000 : Nat) = 9999 + 1 from rfl, run_equalIn_agg w 9999 69 _ _ hS hp]
 simp only [Program.fieldsOf, Tryz.underlying69]
 go_simp
 have hb : ∀ a b : ByteArray, a.toList = b.toList ↔ a = b := fun a b => by
  rw [ByteArray.toList_eq, ByteArray.toList_eq]
  exact ⟨fun h => bl_inj h, fun h => by rw [h]⟩
 obtain ⟨a, b⟩ := x
 obtain ⟨a', b'⟩ := y
 simp only [Prod.mk.injEq]
 simp only [hb]
 by_cases h1 : a = a' <;> by_cases h2 : b = b' <;> simp [h1, h2]
set_option maxRecDepth 100000 in
theorem keyCh : KeyT Tryz.prog 69 OkCh := by
 have hS : Tryz.prog.underlying 69 = some (.struct (Tryz.prog.fieldsOf 69)) := by kernel_rfl
 refine keyT_struct hS ?_ ?_ ?_ ?_
 ·rintro _ _ ⟨x, rfl⟩ ⟨y, rfl⟩; rfl
 ·rintro em w _ ⟨x, rfl⟩
  unfold chV
  rw [show (10000 : Nat) = 9998 + 1 + 1 from rfl, Instr.checkKey]
  simp only [Sem.run_bind, run_underlying Tryz.underlying69, Result.andThen_ok]
  rw [← Array.forIn_toList]
  go_simp
  simp only [check_str, Result.andThen_ok]
 ·rintro _ ⟨x, rfl⟩
  have hb := fun a : ByteArray => (MapKept.bytes_beq a a).2 rfl
  simp [chV, Instr.sameBits, hb]
 ·rintro w _ _ ⟨x, rfl⟩ ⟨y, rfl⟩
  have := equal_of_eql (eql_ch x y w)
  rw [show (Op.equal 69 (chV x) (chV y)).run Tryz.prog w = .ok (decide (x = y)) w from this]
  congr 1
  rw [decide_eq_decide, chV_eq]
/-- The map of costs: its entries. -/
def costV (es : List ((ByteArray × ByteArray) × Int)) : List (Value × Value) := es.map (fun p => (chV p.1, .int .i64 p.2))
theorem costV_no {es : List ((ByteArray × ByteArray) × Int)} {k : ByteArray × ByteArray} (h : ∀ p ∈ es, p.1 ≠ k) : ∀ p ∈ costV es, p.1 ≠ chV k := fun p hp he => by
 obtain ⟨q, hq, rfl⟩ := List.mem_map.1 hp
 exact h q hq (chV_inj he)
theorem costV_in {es : List ((ByteArray × ByteArray) × Int)} {k : ByteArray × ByteArray} {d : Int} (h : (k, d) ∈ es) : (chV k, Value.int .i64 d) ∈ costV es := List.mem_map.2 ⟨_, h, rfl⟩
theorem costV_keys (es : List ((ByteArray × ByteArray) × Int)) : (costV es).map (·.1) = (es.map (·.1)).map chV := by
 unfold costV
 rw [List.map_map, List.map_map]; rfl
/-- A cost is put into the map. -/
theorem cost_put {S : ByteArray × ByteArray → Int → Prop} {es : List ((ByteArray × ByteArray) × Int)} {w : World} {cm : Nat} (hC : CostM S es) (hM : MapIs w cm OkCh (costV es)) (x y : ByteArray) (c0 : Int) (hle : ∀ d, ((x, y), d) ∈ es → c0 ≤ d) :
  ∃ w' es', (Instr.mapUpdate 67 (.map (some cm)) (.agg #[.string x, .string y]) (.int .i64 c0)).run Tryz.prog w = .ok () w' ∧ MapIs w' cm OkCh (costV es') ∧ CostM (fun k c => S k c ∨ (k = (x, y) ∧ c = c0)) es' ∧ w.grownBy w' (some cm) ∧ w'.heap.size = w.heap.size ∧ es'.length ≤ es.length + 1 := by
 obtain ⟨k0, hk0⟩ : ∃ k0 : ByteArray × ByteArray, (x, y) = k0 := ⟨_, rfl⟩
 have e1 : x = k0.1 := by rw [← hk0]
 have e2 : y = k0.2 := by rw [← hk0]
 rw [hk0] at hle ⊢
 rw [e1, e2]
 clear hk0 e1 e2
 rcases hC.look k0 with hno | ⟨d, hd⟩
 ·obtain ⟨w', h1, h2, h3, h4⟩ := hM.put_new keyCh Tryz.underlying67 (key := chV k0) ⟨k0, rfl⟩ (costV_no hno) (.int .i64 c0)
  refine ⟨w', es ++ [(k0, c0)], h1, ?_, hC.put_new hno, h3, h4, by simp⟩
  have : costV (es ++ [(k0, c0)]) = costV es ++ [(chV k0, .int .i64 c0)] := by simp [costV]
  rw [this]; exact h2
 ·obtain ⟨w', h1, h2, h3, h4⟩ := hM.put_old keyCh Tryz.underlying67 (costV_in hd) (.int .i64 c0)
  refine ⟨w', setE es k0 c0, h1, ?_, hC.put_old hd (hle d hd), h3, h4, by simp [setE]⟩
  have : costV (setE es k0 c0) = (costV es).map (fun p => if p.1 = chV k0 then (chV k0, Value.int .i64 c0) else p) := by
   unfold costV setE
   rw [List.map_map, List.map_map]
   refine List.map_congr_left (fun p _ => ?_)
   simp only [Function.comp_apply, chV_eq]
   split <;> rfl
  rw [this]; exact h2
/-- A cost is looked up. -/
theorem cost_look {S : ByteArray × ByteArray → Int → Prop} {es : List ((ByteArray × ByteArray) × Int)} (hC : CostM S es) (x y : ByteArray) :
  ∃ (v : Int) (t : Bool), (∀ (w : World) (cm : Nat), MapIs w cm OkCh (costV es) → (Instr.lookup 67 (.map (some cm)) (.agg #[.string x, .string y]) true).run Tryz.prog w = .ok (.tuple #[.int .i64 v, .bool t]) w) ∧
   ((t = true ∧ ((x, y), v) ∈ es) ∨ (t = false ∧ v = 0 ∧ ∀ d, ((x, y), d) ∉ es)) := by
 obtain ⟨k0, hk0⟩ : ∃ k0 : ByteArray × ByteArray, (x, y) = k0 := ⟨_, rfl⟩
 have e1 : x = k0.1 := by rw [← hk0]
 have e2 : y = k0.2 := by rw [← hk0]
 rw [hk0, e1, e2]
 clear hk0 e1 e2
 rcases hC.look k0 with hno | ⟨d, hd⟩
 ·refine ⟨0, false, fun w cm hM => ?_, .inr ⟨rfl, rfl, fun d hd => hno _ hd rfl⟩⟩
  have := hM.look_none keyCh Tryz.underlying67 (zero_int17 w) (key := chV k0) ⟨k0, rfl⟩ (costV_no hno) true
  rwa [if_pos rfl] at this
 ·refine ⟨d, true, fun w cm hM => ?_, .inl ⟨rfl, hd⟩⟩
  have := hM.look_some keyCh Tryz.underlying67 (costV_in hd) true
  rwa [if_pos rfl] at this
theorem cost_is {es : List ((ByteArray × ByteArray) × Int)} {x y : ByteArray} {d : Int} (hd : ((x, y), d) ∈ es) {w : World} {cm : Nat} (hM : MapIs w cm OkCh (costV es)) :
  (Instr.lookup 67 (.map (some cm)) (.agg #[.string x, .string y]) false).run Tryz.prog w = .ok (.int .i64 (costOf es (x, y))) w := by
 have := hM.look_some keyCh Tryz.underlying67 (costV_in (costOf_mem hd)) false
 rw [if_neg (by decide)] at this
 exact this
/-- A map of what words become, by changes seen. -/
structure TosAt (w : World) (base bm : Nat) (l : List (ByteArray × ByteArray)) (es : List (Value × Value)) : Prop where
 isMap : MapIs w bm OkStr es
 own : ∀ p ∈ es, ∃ k : ByteArray, p.1 = .string k ∧ tosOf l k ≠ [] ∧ w.ownsRow base 9 1 p.2 (tosOf l k).length (strs (tosOf l k))
 has : ∀ k : ByteArray, tosOf l k ≠ [] → ∃ v, (Value.string k, v) ∈ es
 apart : ∀ p ∈ es, ∀ q ∈ es, p.1 ≠ q.1 → p.2.ownBlock ≠ q.2.ownBlock
theorem TosAt.look {w : World} {base bm : Nat} {l : List (ByteArray × ByteArray)} {es : List (Value × Value)} (h : TosAt w base bm l es) (k : ByteArray) :
  ∃ v0, ((tosOf l k = [] → v0 = .slice none 0 0) ∧ (tosOf l k ≠ [] → (Value.string k, v0) ∈ es)) ∧ w.ownsRow base 9 1 v0 (tosOf l k).length (strs (tosOf l k)) ∧
   (Instr.lookup 71 (.map (some bm)) (.string k) false).run Tryz.prog w = .ok v0 w := by
 by_cases hk : tosOf l k = []
 ·have := MapIs.look_none h.isMap keyStr Tryz.underlying71 (zero_strs w) (key := .string k) (okStr k) (fun p hp he => by
   obtain ⟨k', h1, h2, _⟩ := h.own p hp
   rw [h1] at he; injection he with he; subst he; exact h2 hk) false
  rw [hk]
  exact ⟨_, ⟨fun _ => rfl, fun h => absurd rfl h⟩, World.ownsRow_nil _ _ _ _, by simpa using this⟩
 ·obtain ⟨v, hv⟩ := h.has k hk
  obtain ⟨k', h1, _, h3⟩ := h.own _ hv
  injection h1 with h1; subst h1
  have := MapIs.look_some h.isMap keyStr Tryz.underlying71 hv false
  exact ⟨v, ⟨fun h => absurd h hk, fun _ => hv⟩, h3, by simpa using this⟩
theorem TosAt.look_at {w w' : World} {base bm : Nat} {l : List (ByteArray × ByteArray)} {es : List (Value × Value)} (h : TosAt w base bm l es) (hb : w'.heap[bm]? = w.heap[bm]?) {k : ByteArray} {v0 : Value} (hv : (tosOf l k = [] → v0 = .slice none 0 0) ∧ (tosOf l k ≠ [] → (Value.string k, v0) ∈ es)) :
  (Instr.lookup 71 (.map (some bm)) (.string k) false).run Tryz.prog w' = .ok v0 w' := by
 have hm := h.isMap.block hb
 by_cases hk : tosOf l k = []
 ·have := MapIs.look_none hm keyStr Tryz.underlying71 (zero_strs w') (key := .string k) (okStr k) (fun p hp he => by
   obtain ⟨k', h1, h2, _⟩ := h.own p hp
   rw [h1] at he; injection he with he; subst he; exact h2 hk) false
  rw [hv.1 hk]
  simpa using this
 ·have := MapIs.look_some hm keyStr Tryz.underlying71 (hv.2 hk) false
  simpa using this

theorem TosAt.below {w w' : World} {base bm : Nat} {l : List (ByteArray × ByteArray)} {es : List (Value × Value)} (h : TosAt w base bm l es) (hb : Below w.heap.size w w') : TosAt w' base bm l es :=
 ⟨h.isMap.below hb h.isMap.lt, fun p hp => by
  obtain ⟨k, h1, h2, h3⟩ := h.own p hp
  exact ⟨k, h1, h2, own_below h3 hb⟩, h.has, h.apart⟩
theorem TosAt.step {W W1 : World} {base bm : Nat} {l : List (ByteArray × ByteArray)} {es : List (Value × Value)} (h : TosAt W base bm l es) (p : ByteArray × ByteArray) {v0 : Value} (hv0 : (tosOf l p.1 = [] → v0 = .slice none 0 0) ∧ (tosOf l p.1 ≠ [] → (Value.string p.1, v0) ∈ es)) {g cap : Nat}
  (hown1 : W1.ownsRow base 9 1 (.slice (some ⟨g, 0, none⟩) ((tosOf l p.1).length + 1) cap) ((tosOf l p.1).length + 1) (strs (tosOf l p.1) ++ [.string p.2])) (hgrow : W.grownBy W1 v0.ownBlock) (hat : v0.ownBlock = some g ∨ g = W.heap.size) :
  ∃ W2 es', (Instr.mapUpdate 71 (.map (some bm)) (.string p.1) (.slice (some ⟨g, 0, none⟩) ((tosOf l p.1).length + 1) cap)).run Tryz.prog W1 = .ok () W2 ∧ TosAt W2 base bm (l ++ [p]) es' ∧ W1.grownBy W2 (some bm) ∧ W2.heap.size = W1.heap.size := by
 have hnew : tosOf (l ++ [p]) p.1 = tosOf l p.1 ++ [p.2] := by rw [tosOf_snoc, if_pos rfl]
 have hold : ∀ k, k ≠ p.1 → tosOf (l ++ [p]) k = tosOf l k := fun k hk => by rw [tosOf_snoc, if_neg (fun e => hk e.symm), List.append_nil]
 have hgb : (Value.slice (some ⟨g, 0, none⟩) ((tosOf l p.1).length + 1) cap).ownBlock = some g := rfl
 have hsmall : ∀ q ∈ es, ∀ b, q.2.ownBlock = some b → b < W.heap.size := fun q hq b hb => by
  obtain ⟨k, _, _, h3⟩ := h.own q hq
  exact (h3.lt b hb).2
 by_cases hk : tosOf l p.1 = []
 ·have e0 := hv0.1 hk
  subst e0
  have hm1 : MapIs W1 bm OkStr es := h.isMap.grown hgrow (by intro e; cases e)
  have hno : ∀ q ∈ es, q.1 ≠ Value.string p.1 := fun q hq he => by
   obtain ⟨k, h1, h2, _⟩ := h.own q hq
   rw [h1] at he; injection he with he; subst he; exact h2 hk
  obtain ⟨W2, hrun, hm2, hg2, hsz⟩ := hm1.put_new keyStr Tryz.underlying71 (key := .string p.1) (okStr _) hno (.slice (some ⟨g, 0, none⟩) ((tosOf l p.1).length + 1) cap)
  refine ⟨W2, _, hrun, ⟨hm2, fun q hq => ?_, fun k hkk => ?_, fun q hq q' hq' hne => ?_⟩, hg2, hsz⟩
  ·rcases List.mem_append.1 hq with hq | hq
   ·obtain ⟨k, h1, h2, h3⟩ := h.own q hq
    have hkp : k ≠ p.1 := fun e => h2 (by rw [e]; exact hk)
    refine ⟨k, h1, by rw [hold k hkp]; exact h2, ?_⟩
    rw [hold k hkp]
    have h4 := h3.kept hgrow (.inr (by
     intro e
     rcases h3.2 with ⟨hv, hn0⟩ | ⟨g', _, _, hv, _⟩
     ·exact h2 (List.length_eq_zero_iff.1 hn0)
     ·rw [hv] at e; cases e))
    exact h4.kept hg2 (.inr (own_ne_mapB h4 hm1))
   ·obtain rfl : q = (Value.string p.1, Value.slice (some ⟨g, 0, none⟩) ((tosOf l p.1).length + 1) cap) := by simpa using hq
    refine ⟨p.1, rfl, by rw [hnew]; simp, ?_⟩
    rw [hnew, strs_append, List.length_append]
    exact hown1.kept hg2 (.inr (own_ne_mapB hown1 hm1))
  ·by_cases e : k = p.1
   ·subst e; exact ⟨_, List.mem_append.2 (.inr (List.mem_singleton.2 rfl))⟩
   ·rw [hold k e] at hkk
    obtain ⟨v, hv⟩ := h.has k hkk
    exact ⟨v, List.mem_append.2 (.inl hv)⟩
  ·have hg : g = W.heap.size := by
    rcases hat with e | e
    ·cases e
    ·exact e
   rcases List.mem_append.1 hq with hq | hq <;> rcases List.mem_append.1 hq' with hq' | hq'
   ·exact h.apart q hq q' hq' hne
   ·obtain rfl : q' = (Value.string p.1, Value.slice (some ⟨g, 0, none⟩) ((tosOf l p.1).length + 1) cap) := by simpa using hq'
    intro e
    have := hsmall q hq g (e.trans hgb)
    omega
   ·obtain rfl : q = (Value.string p.1, Value.slice (some ⟨g, 0, none⟩) ((tosOf l p.1).length + 1) cap) := by simpa using hq
    intro e
    have := hsmall q' hq' g (e.symm.trans hgb)
    omega
   ·obtain rfl : q = (Value.string p.1, Value.slice (some ⟨g, 0, none⟩) ((tosOf l p.1).length + 1) cap) := by simpa using hq
    obtain rfl : q' = (Value.string p.1, Value.slice (some ⟨g, 0, none⟩) ((tosOf l p.1).length + 1) cap) := by simpa using hq'
    exact absurd rfl hne
 ·have hin := hv0.2 hk
  obtain ⟨k0, e0, _, hown0⟩ := h.own _ hin
  injection e0 with e0; subst e0
  simp only at hown0
  have hm1 : MapIs W1 bm OkStr es := h.isMap.grown hgrow (fun e => own_ne_mapB hown0 h.isMap e.symm)
  obtain ⟨W2, hrun, hm2, hg2, hsz⟩ := hm1.put_old keyStr Tryz.underlying71 hin (.slice (some ⟨g, 0, none⟩) ((tosOf l p.1).length + 1) cap)
  have hmem : ∀ q ∈ es.map (fun q => if q.1 = Value.string p.1 then (Value.string p.1, Value.slice (some ⟨g, 0, none⟩) ((tosOf l p.1).length + 1) cap) else q), (q ∈ es ∧ q.1 ≠ Value.string p.1) ∨ q = (Value.string p.1, Value.slice (some ⟨g, 0, none⟩) ((tosOf l p.1).length + 1) cap) := fun q hq => by
   obtain ⟨r, hr, rfl⟩ := List.mem_map.1 hq
   by_cases e : r.1 = Value.string p.1
   ·rw [if_pos e]; exact .inr rfl
   ·rw [if_neg e]; exact .inl ⟨hr, e⟩
  have hap : ∀ q ∈ es, q.1 ≠ Value.string p.1 → q.2.ownBlock ≠ some g := fun q hq hne e => by
   rcases hat with e1 | e1
   ·exact h.apart q hq _ hin hne (by rw [e]; exact e1.symm)
   ·have := hsmall q hq g e
    omega
  refine ⟨W2, _, hrun, ⟨hm2, fun q hq => ?_, fun k hkk => ?_, fun q hq q' hq' hne => ?_⟩, hg2, hsz⟩
  ·rcases hmem q hq with ⟨hq, hqn⟩ | rfl
   ·obtain ⟨k, h1, h2, h3⟩ := h.own q hq
    have hkp : k ≠ p.1 := fun e => hqn (by rw [h1, e])
    refine ⟨k, h1, by rw [hold k hkp]; exact h2, ?_⟩
    rw [hold k hkp]
    have h4 := h3.kept hgrow (.inr (h.apart q hq _ hin hqn))
    exact h4.kept hg2 (.inr (own_ne_mapB h4 hm1))
   ·refine ⟨p.1, rfl, by rw [hnew]; simp, ?_⟩
    rw [hnew, strs_append, List.length_append]
    exact hown1.kept hg2 (.inr (own_ne_mapB hown1 hm1))
  ·by_cases e : k = p.1
   ·subst e
    exact ⟨_, List.mem_map.2 ⟨_, hin, by rw [if_pos rfl]⟩⟩
   ·rw [hold k e] at hkk
    obtain ⟨v, hv⟩ := h.has k hkk
    exact ⟨v, List.mem_map.2 ⟨_, hv, by rw [if_neg (fun e' => e (by injection e'))]⟩⟩
  ·rcases hmem q hq with ⟨hq, hqn⟩ | rfl <;> rcases hmem q' hq' with ⟨hq', hqn'⟩ | rfl
   ·exact h.apart q hq q' hq' hne
   ·exact hap q hq hqn
   ·exact fun e => hap q' hq' hqn' e.symm
   ·exact absurd rfl hne
end Go.Proofs.YthachfkcgdfdfaaGreatDoor
/- Walk: maps.Keys at a map of changes (pairs of texts): its iterator. -/
namespace Go.Proofs.YthachfkcgdfdfaaGreatDoor
open Go.RowKit

theorem wpIn_range_rounds2 {F : Fence} {n : Nat} {P : Program} {α : Type} {g : Operand} {ps : Array Tmp} {assign body : Code} {Q : Exit → Act → World → Prop} {a : Act} {w : World}
  (hro : F.round = none) (h1 : 1 ≤ n) {gf : Nat} {lb : Array Value} (hg : a.eval g = .func (.func gf) #[] lb) (hFg : F.fn gf) (eg : ∀ args w, (callFunc gf args).run P w = .ok (.enter gf args) w)
  {encs : α → Array Value} {Kp : World → World → Prop} {S Sp : List α → Prop} {N : Nat} {w0 : World} (hseq : SeqStopsK F (n - 1) P gf lb encs Kp S Sp N w0)
  (hKt : ∀ {A B C : World}, Kp A B → Kp B C → Kp A C) (hKb : ∀ (W : World) (l : Nat) (o o' : Obj), w.heap.size ≤ l → W.heap[l]? = some o → o.isCells = false → o.isWalk = false → Kp W (W.putObj l o')) (hb0 : Below w0.heap.size w0 w) (hps : ∀ x, (encs x).size = ps.size)
  (I : List α → World → Prop) (hI : OwnFrom w.heap.size I) (h0 : I [] w) (Ax : World → α → Act → World → Prop) (hAx : ∀ (W0 : World) (x : α) (a' : Act) (W : World) (l : Nat) (o o' : Obj), Ax W0 x a' W → w.heap.size ≤ l → W.heap[l]? = some o → o.isCells = false → o.isWalk = false → Ax W0 x a' (W.putObj l o'))
  (hassign : ∀ (l : Nat) (pre : List α) (x : α) (W : World) (K : Act → World → Prop), I pre W → (∀ a' W', KeepsFrom w.heap.size W W' → I pre W' → Ax W x a' W' → K a' W') →
   assign.wpIn (F.inRound l) (n - 1 - 1) P (Exit.then K (fun _ _ _ => False)) { tmps := (ps.zip (encs x)).foldl (fun t (p, v) => t.setIfInBounds p v) a.tmps, defers := [] } W)
  (hbody : ∀ (l : Nat) (pre : List α) (x : α) (a' : Act) (W0 W : World), I pre W → Ax W0 x a' W → pre.length < N →
   body.wpIn (F.inRound l) (n - 1 - 1) P (fun e _ W' => e = .normal ∧ KeepsFrom w.heap.size W W' ∧ Kp W0 W' ∧ I (pre ++ [x]) W') a' W)
  (hdone : ∀ (D : Nat) (xs : List α) (W : World), w.heap.size ≤ D → S xs → I xs W → W.heap[D]? = some (.deferred (some [])) → Q .normal { a with defers := { target := .collected D, args := #[] } :: a.defers } W) :
  (Code.rangeFunc g ps assign body).wpIn F n P Q a w := by
 refine wpIn_rangeFunc fun fn hfn => ?_
 rw [hro]
 -- the loop's record, and the world with both blocks of book-keeping
 let R : LoopState → Loop := fun st => { state := st, pending := none, fn, tmps := a.tmps, params := ps, assign, body, defers := w.heap.size }
 obtain ⟨B, hB⟩ : ∃ B, B = w.heap.size := ⟨_, rfl⟩
 obtain ⟨W1, hW1⟩ : ∃ W1, W1 = (w.alloc (.deferred (some []))).alloc (.loop (R .ready)) := ⟨_, rfl⟩
 have rL : W1.heap[B + 1]? = some (.loop (R .ready)) := by
  have h := World.alloc_heap_new (w.alloc (.deferred (some []))) (.loop (R .ready))
  rw [World.size_alloc, ← hB] at h
  rw [hW1]; exact h
 have rD : W1.heap[B]? = some (.deferred (some [])) := by
  rw [hW1, hB]; exact (Below.heap_alloc _ _ _ (by simp)).trans (World.alloc_heap_new w _)
 have iI : I [] W1 := by rw [hW1]; exact hI.alloc _ (hI.alloc _ h0)
 have sz1 : W1.heap.size = B + 2 := by rw [hW1, hB]; simp
 have bl1 : Below w0.heap.size w0 W1 := by
  rw [hW1]; exact hb0.trans ((((Below.refl _ w).alloc (Nat.le_refl _) _).alloc (by simp) _).mono hb0.size)
 refine ⟨B + 1, [{ target := .collected B, args := #[] }], W1, { target := .fn (.func gf) lb, args := #[.func (.yield (B + 1)) #[] #[]] }, W1, gf, #[.func (.yield (B + 1)) #[] #[]] ++ lb, W1, ?_, ?_, ?_, ?_, fun _ => h1, ?_⟩
 ·rw [hW1, hB]; exact run_enterLoop_outer _ _ _ _ _
 ·simp only [resolve, hg]
  simp [go_sem]
 ·intro f hf
  simp [Target.leads] at hf
  rw [← hf]; exact hFg
 ·simp [invoke, go_sem, eg]
 -- what the rounds hand on: I, the loop's record at rest, the block for deferred calls
 let J : List α → World → Prop := fun pre W => I pre W ∧ W.heap[B + 1]? = some (.loop (R .ready)) ∧ W.heap[B]? = some (.deferred (some []))
 have stays : ∀ {X Y : World} {row : Option Nat} {k : Nat} {o : Obj}, X.grownBy Y row → (∀ r, row = some r → W1.heap.size ≤ r ∧ ∃ o : Obj, X.heap[r]? = some o ∧ o.isWalk = true) → k < W1.heap.size → X.heap[k]? = some o → Y.heap[k]? = some o := fun hg hr hk ho =>
  (hg.block _ (Array.getElem?_eq_some_iff.1 ho).1 (fun e => by have := (hr _ e.symm).1; omega)).trans ho
 have hJ : AbidesFrom W1.heap.size J := fun pre X Y row hs hg hr =>
  ⟨hI pre X Y row hs.1 hg (fun r e => by obtain ⟨h2, o, h3, h4⟩ := hr r e; exact ⟨by omega, o, h3, Obj.not_cells_of_walk h4⟩), stays hg hr (by omega) hs.2.1, stays hg hr (by omega) hs.2.2⟩
 refine (hseq (B + 1) J (fun _ _ => False) W1 bl1 hJ (fun _ _ _ _ hs _ _ => hs) ?_ ⟨iI, rL, rD⟩).mono ?_
 ·rintro pre x W ⟨hi, hl, hd⟩ hlen
  refine ⟨fn, _, assign, body, run_yield (P := P) (args := encs x) hl (hps x), roundIn_of_wpIn hfn (hassign _ pre x W _ hi ?_)⟩
  intro a' Wa hka hia hax
  have hl' := hka.same _ _ (by omega) hl rfl
  have hd' := hka.same _ _ (by omega) hd rfl
  have hlt := (Array.getElem?_eq_some_iff.1 hl').1
  refine ⟨_, run_beginRound hl' rfl, ?_⟩
  obtain ⟨X, hX⟩ : ∃ X, X = Wa.putObj (B + 1) (.loop (R .busy)) := ⟨_, rfl⟩
  have xl : X.heap[B + 1]? = some (.loop (R .busy)) := by rw [hX]; exact World.putObj_heap_same hlt
  have xd : X.heap[B]? = some (.deferred (some [])) := by rw [hX]; exact (World.putObj_heap_other (by omega)).trans hd'
  have xi : I pre X := by rw [hX]; exact hI.putObj _ hia (by omega) hl' rfl
  have xa : Ax W x a' X := by rw [hX]; exact hAx W x a' _ _ _ _ hax (by omega) hl' rfl rfl
  have hb := hbody (B + 1) pre x a' W X xi xa hlen
  rw [hX] at hb
  refine wpIn_mono hb ?_
  rintro e a3 W3 ⟨rfl, hk3, hkp, hi3⟩
  rw [← hX] at hk3
  have hl3 := hk3.same _ _ (by omega) xl rfl
  have hd3 := hk3.same _ _ (by omega) xd rfl
  exact ⟨_, _, run_endRound (P := P) none hl3, .inl ⟨rfl, ⟨hI.putObj _ hi3 (by omega) hl3 rfl, World.putObj_heap_same (Array.getElem?_eq_some_iff.1 hl3).1, (World.putObj_heap_other (by omega)).trans hd3⟩, hKt hkp (hKb _ _ _ _ (by omega) hl3 rfl rfl)⟩⟩
 ·rintro e W2 ⟨⟨v, rfl⟩, ⟨xs, hS, hi, hl, hd⟩ | ⟨pre, _, h⟩⟩
  ·exact ⟨none, _, run_endLoop (P := P) hl (by simp [R]), hdone B xs _ (by omega) hS (hI.putObj _ hi (by omega) hl rfl) ((World.putObj_heap_other (by omega)).trans hd)⟩
  ·exact h.elim

open Go.Shelf Classical
attribute [local go_sem] Oper.semAt_some
noncomputable def leftK (w : World) (b r : Nat) : Nat := match w.heap[b]?, w.heap[r]? with
 | some (.map es _), some (.mapIter _ _ seen _) => (leftOf es seen).size
 | _, _ => 0
theorem leftK_eq {w : World} {b r : Nat} {Ok : Value → Prop} {l left : List (Value × Value)} (h : RangeIs w b r Ok l left) : leftK w b r = left.length := by
 obtain ⟨es, clock, since, seen, c0, h1, h2, h3, h4, h5, h6, h7, h8, h9⟩ := h
 rw [← h9]
 simp [leftK, h1, h5]
/-- A map and its iterators stay. -/
def KeepM (b Bt : Nat) (X Y : World) : Prop := Y.heap[b]? = X.heap[b]? ∧ Y.heap[Bt]? = X.heap[Bt]? ∧ ∀ (i : Nat) (o : Obj), X.heap[i]? = some o → (∃ s sn c0, o = .mapIter (some b) s sn c0) → Y.heap[i]? = some o
theorem KeepM.range {b Bt r : Nat} {X Y : World} {l left : List (Value × Value)} (h : RangeIs X b r OkCh l left) (k : KeepM b Bt X Y) : RangeIs Y b r OkCh l left := by
 obtain ⟨es, clock, since, seen, c0, h1, h2, h3, h4, h5, h6⟩ := h
 exact ⟨es, clock, since, seen, c0, k.1.trans h1, h2, h3, h4, k.2.2 _ _ h5 ⟨_, _, _, rfl⟩, h6⟩
set_option maxRecDepth 100000 in
set_option maxHeartbeats 2000000 in
theorem keysC_in (n : Nat) (hn : 1 ≤ n) (y Bt b : Nat) (es : List (Value × Value)) (J Jx : List (ByteArray × ByteArray) → World → Prop)
  (hY : ∀ pre x W, J pre W → pre.length < es.length → YieldAt Fence.wide (n - 1) Tryz.prog y #[chV x] W fun e W' =>
   (e = .returned (.bool true) ∧ J (pre ++ [x]) W' ∧ KeepM b Bt W W') ∨ (e = .returned (.bool false) ∧ Jx (pre ++ [x]) W'))
  (W : World) (hJ : AbidesFrom W.heap.size J) (hB : Blk W Bt #[.map (some b)] 67) (hM : MapIs W b OkCh es) (h0 : J [] W) :
  CallsIn Fence.wide n Tryz.prog 76 #[.func (.yield y) #[] #[], .pointer (some ⟨Bt, 0, none⟩)] W fun e W' => (∃ v, e = .returned v) ∧
   ((∃ ys : List (ByteArray × ByteArray), (ys.map chV).Perm (es.map (·.1)) ∧ J ys W') ∨ (∃ pre : List (ByteArray × ByteArray), True ∧ Jx pre W')) := by
 refine callsIn_of_wp Tryz.func76 rfl trivial ?_ rfl
 simp only [Tryz.ntmps76, List.size_toArray, List.length_cons, List.length_nil, Nat.reduceAdd, Nat.reduceSub, Array.replicate_succ, Array.replicate_zero, List.push_toArray, List.append_toArray, List.nil_append, List.cons_append]
 have c0 : W.cell? ⟨Bt, 0, none⟩ = some (.map (some b)) := hB.cell 0
 obtain ⟨ro, hrun, hrg⟩ := MapIs.range (P := Tryz.prog) hM Tryz.underlying67
 have hHl := hM.ok
 obtain ⟨W1, hW1⟩ : ∃ W1 : World, W1 = W.alloc ro := ⟨_, rfl⟩
 rw [← hW1] at hrun hrg
 have hb1 : Below W.heap.size W W1 := by rw [hW1]; exact (Below.refl _ _).alloc (Nat.le_refl _) _
 have h1 : J [] W1 := hJ [] W W1 none h0 (grown_of_below hb1 none) (fun r e => by cases e)
 have Hok := Lib.hid hHl
 have H1 := Lib.hid (And.intro hrg h1)
 have hbl := hM.lt
 have hBl := hB.lt
 obtain ⟨r, hr⟩ : ∃ r, W.heap.size = r := ⟨_, rfl⟩
 rw [hr] at H1 hrun hJ
 clear hHl hW1 hrg h1 h0 hb1
 gi_wp2
 clear c0 hrun
 gi_loopw [] (fun wx => ∃ (pre : List (ByteArray × ByteArray)) (zs : List (Value × Value)), RangeIs wx b r OkCh es zs ∧ (pre.map chV ++ zs.map (·.1)).Perm (es.map (·.1)) ∧ J pre wx) (fun wx => leftK wx b r)
 case atStart => exact ⟨[], es, H1.out.1, List.Perm.refl _, H1.out.2⟩
 case round =>
  obtain ⟨pre, zs, hrg, hperm, hJp⟩ := hrel
  have Hrg := Lib.hid hrg
  have Hperm := Lib.hid hperm
  have HJp := Lib.hid hJp
  clear hrg hperm hJp
  rcases RangeIs.next (P := Tryz.prog) Hrg.out 0 with ⟨hl, hrun⟩ | ⟨A', p, B', w', hl, hrun, hrg', hg', hs', hent⟩
  ·have hnx : ∀ ty, (Instr.next (.pointer (some ⟨r, 0, none⟩)) false ty).run Tryz.prog wr = .ok (.tuple #[.bool false]) wr := fun _ => hrun
   have Hp := Lib.hid (show (pre.map chV).Perm (es.map (·.1)) by have := Hperm.out; rwa [hl, List.map_nil, List.append_nil] at this)
   clear hl hrun
   gi_wp2
   go_end0
   exact ⟨⟨_, rfl⟩, .inl ⟨pre, Hp.out, HJp.out⟩⟩
  ·have hin : p ∈ es := by
    have hm : p.1 ∈ es.map (·.1) := Hperm.out.mem_iff.1 (List.mem_append.2 (.inr (by rw [hl]; simp)))
    obtain ⟨es', clock, since, seen, c0', h1, h2, h3, h4, h5, h6, h7, h8, h9⟩ := Hrg.out
    have : p ∈ (leftOf es' seen).toList.map (fun x => (x.key, x.val)) := by rw [h9, hl]; simp
    obtain ⟨x, hx, rfl⟩ := List.mem_map.1 this
    rw [← h4]
    refine List.mem_map.2 ⟨x, ?_, rfl⟩
    simp only [leftOf, Array.toList_filter] at hx
    exact (List.mem_filter.1 hx).1
   obtain ⟨k, hk⟩ := Hok.out p hin
   obtain ⟨pk, pv⟩ := p
   simp only at hk
   subst hk
   have hlen : pre.length < es.length := by
    have := Hperm.out.length_eq
    rw [List.length_append, List.length_map, List.length_map, List.length_map, hl, List.length_append, List.length_cons] at this
    omega
   have hnx : ∀ ty, (Instr.next (.pointer (some ⟨r, 0, none⟩)) false ty).run Tryz.prog wr = .ok (.tuple #[.bool true, .agg #[.string k.1, .string k.2], pv]) w' := fun _ => hrun
   have hent' : (Instr.entry (.pointer (some ⟨r, 0, none⟩))).run Tryz.prog w' = .ok (.tuple #[.agg #[.string k.1, .string k.2], pv]) w' := hent
   have hJw : J pre w' := hJ pre wr w' (some r) HJp.out hg' (fun q e => by
    cases e
    obtain ⟨es', clock, since, seen, c0', h1, h2, h3, h4, h5, h6⟩ := Hrg.out
    exact ⟨Nat.le_refl _, _, h5, rfl⟩)
   obtain ⟨W8, hW8⟩ : ∃ W8 : World, W8 = w'.alloc (.cells #[.string k.1, .string k.2] 69) := ⟨_, rfl⟩
   have hb8 : Below w'.heap.size w' W8 := by rw [hW8]; exact (Below.refl _ _).alloc (Nat.le_refl _) _
   have hk8 : Blk W8 w'.heap.size #[.string k.1, .string k.2] 69 := by rw [hW8]; exact Blk.new _ _ _
   have hJ8 : J pre W8 := hJ pre w' W8 none hJw (grown_of_below hb8 none) (fun q e => by cases e)
   have hrg8 : RangeIs W8 b r OkCh es (A' ++ B') := RangeIs.below hrg' hb8 (MapIs.lt (RangeIs.isMap hrg')) (RangeIs.lt hrg')
   have hp8 : ((pre ++ [k]).map chV ++ (A' ++ B').map (·.1)).Perm (es.map (·.1)) := by
    refine List.Perm.trans ?_ Hperm.out
    rw [hl]
    simp only [List.map_append, List.map_cons, List.map_nil, List.append_assoc]
    refine List.Perm.append_left _ ?_
    simp only [List.cons_append, List.nil_append]
    exact (List.perm_middle (l₁ := A'.map (·.1)) (a := chV k) (l₂ := B'.map (·.1))).symm
   have hzl : zs.length = (A' ++ B').length + 1 := by rw [hl]; simp; omega
   have k0 : W8.cell? ⟨w'.heap.size, 0, none⟩ = some (.string k.1) := hk8.cell 0
   have k1 : W8.cell? ⟨w'.heap.size, 1, none⟩ = some (.string k.2) := hk8.cell 1
   have HYY := Lib.hid (hY pre k W8 hJ8 hlen)
   have H8 := Lib.hid (And.intro hrg8 (And.intro hp8 hzl))
   clear hl hrun hent hrg' hg' hs' hin hJw hb8 hk8 hJ8 hrg8 hp8 hzl
   obtain ⟨fn, tmps, assign, body, hy, hR⟩ := HYY.out
   have HR := Lib.hid hR
   clear hR
   unfold chV at hy
   rw [hW8] at hy
   gi_wp2
   rw [← hW8]
   refine HR.out.mono ?_
   rintro e W3 (⟨rfl, hJ3, hk3⟩ | ⟨rfl, hJx3⟩)
   ·have H3 := Lib.hid (And.intro hJ3 (KeepM.range H8.out.1 hk3))
    clear hJ3 hk3 k0 k1 hnx hent'
    gi_wp2
    refine ⟨⟨pre ++ [k], A' ++ B', H3.out.2, H8.out.2.1, H3.out.1⟩, ?_⟩
    rw [leftK_eq H3.out.2, leftK_eq Hrg.out, H8.out.2.2]
    omega
   ·have H3 := Lib.hid hJx3
    clear hJx3 k0 k1 hnx hent'
    gi_wp2
    refine bodyPost_ret (results_none rfl _ _ _) rfl ?_
    exact ⟨⟨_, rfl⟩, .inr ⟨_, trivial, H3.out⟩⟩

/-- maps.Keys at such a map: a function over one new block. -/
theorem keysC_any (mb : Option Nat) (w : World) : Calls Tryz.prog 37 #[.map mb] w fun e w' =>
  e = .returned (.func (.func 76) #[] #[.pointer (some ⟨w.heap.size, 0, none⟩)]) ∧ w' = w.alloc (.cells #[.map mb] 67) := by
 go_enter Tryz.func37, Tryz.ntmps37
 go_wp2
 go_ret
 exact ⟨rfl, rfl⟩
/-- The iterator's contract. -/
theorem keysC_seq (n : Nat) (hn : 1 ≤ n) (Bt b : Nat) (es : List (Value × Value)) (W : World) (hB : Blk W Bt #[.map (some b)] 67) (hM : MapIs W b OkCh es) :
  SeqStopsK Fence.wide n Tryz.prog 76 #[.pointer (some ⟨Bt, 0, none⟩)] (fun x : ByteArray × ByteArray => #[chV x]) (KeepM b Bt) (fun ys => (ys.map chV).Perm (es.map (·.1))) (fun _ => True) es.length W := by
 intro y J Jx W1 hW hJ hJx hY h0
 refine (keysC_in n hn y Bt b es J Jx hY W1 hJ (hB.below hW hB.lt) (hM.below hW hM.lt) h0).mono ?_
 rintro e X h
 exact h
end Go.Proofs.YthachfkcgdfdfaaGreatDoor
