/- K3 · GE · GU -/
import Derived.Test.YthachfkcgdfdfaaGreatDoorP07
import Derived.RangeFuncNested
import Derived.RangeFuncBound
import Derived.RangeFuncCalls
import Derived.RangeFuncLeaves
import Derived.Shelf.Abstract
import Derived.Shelf.RegionOpen
import Derived.OwnWalkIn
import Derived.TacticsInMore
import Derived.LoopNIn
import Derived.LoopIn
import Derived.BigQuiet
import Derived.Deep.QuietTactic
import Derived.RangeFuncBox
import Derived.Laws.MakeOwn
import Derived.Deep.DeepCutAuto
import Derived.Deep.CutBlock
import Derived.Laws.EntriesVeiled
import Derived.ArgAppend
/- Walk: the arcs of a state that read a symbol, as an iterator (machine.arcs). -/
namespace Go.Proofs.YthachfkcgdfdfaaGreatDoor
open Go.RowKit Classical
open Go.Shelf
attribute [local go_sem] Oper.semAt_some

theorem heap_cell {W W' : World} {a : Nat} (h : W'.heap[a]? = W.heap[a]?) (o : Nat) : W'.cell? ⟨a, o, none⟩ = W.cell? ⟨a, o, none⟩ := by
 simp only [World.cell?, h]
theorem lt_of_cell {W : World} {a o : Nat} {v : Value} (h : W.cell? ⟨a, o, none⟩ = some v) : a < W.heap.size := by
 unfold World.cell? at h
 cases ho : W.heap[a]? with
 | none => simp [ho] at h
 | some x => exact (Array.getElem?_eq_some_iff.1 ho).1

/-- What the iterator reads: its machine, state and symbol; the arcs. -/
structure IterAt (W : World) (Bm Bs Bi : Nat) (l : List Arc) (s c : Int) (aa : Option Addr) (ac : Nat) : Prop where
 m : W.cell? ⟨Bm, 3, none⟩ = some (.slice aa l.length ac)
 s : W.cell? ⟨Bs, 0, none⟩ = some (.int .i64 s)
 c : W.cell? ⟨Bi, 0, none⟩ = some (.int .i64 c)
 row : RowAt W W.heap.size aa (flat l)
/-- The blocks that it reads lie as they lay. -/
structure Keep4 (Bm Bs Bi : Nat) (l : List Arc) (aa : Option Addr) (W W' : World) : Prop where
 m : W'.heap[Bm]? = W.heap[Bm]?
 s : W'.heap[Bs]? = W.heap[Bs]?
 c : W'.heap[Bi]? = W.heap[Bi]?
 row : 0 < l.length → ∀ p, aa = some p → W'.heap[p.block]? = W.heap[p.block]?
section
variable {Bm Bs Bi : Nat} {l : List Arc} {aa : Option Addr} {W W' W'' : World} {s c : Int} {ac : Nat}
theorem Keep4.refl : Keep4 Bm Bs Bi l aa W W := ⟨rfl, rfl, rfl, fun _ _ _ => rfl⟩
theorem Keep4.trans (h : Keep4 Bm Bs Bi l aa W W') (k : Keep4 Bm Bs Bi l aa W' W'') : Keep4 Bm Bs Bi l aa W W'' :=
 ⟨k.m.trans h.m, k.s.trans h.s, k.c.trans h.c, fun h0 p hp => (k.row h0 p hp).trans (h.row h0 p hp)⟩
theorem Keep4.drewN (h : Keep4 Bm Bs Bi l aa W W') (n : Nat) : Keep4 Bm Bs Bi l aa W (W'.drewN n) := ⟨h.m, h.s, h.c, h.row⟩
theorem IterAt.keep (h : IterAt W Bm Bs Bi l s c aa ac) (k : Keep4 Bm Bs Bi l aa W W') : IterAt W' Bm Bs Bi l s c aa ac :=
 ⟨(heap_cell k.m 3).trans h.m, (heap_cell k.s 0).trans h.s, (heap_cell k.c 0).trans h.c, fun hn => by
  obtain ⟨b, off, e, hb, hc⟩ := h.row hn
  have hl : 0 < l.length := by rw [flat_length] at hn; omega
  have he := k.row hl _ e
  have hc' : ∀ i x, (flat l)[i]? = some x → W'.cell? ⟨b, off + i, none⟩ = some x := fun i x hx => (heap_cell he (off + i)).trans (hc i x hx)
  exact ⟨b, off, e, lt_of_cell (hc' 0 (flat l)[0] (List.getElem?_eq_getElem hn)), hc'⟩⟩
theorem IterAt.below (h : IterAt W Bm Bs Bi l s c aa ac) (hb : Below W.heap.size W W') : Keep4 Bm Bs Bi l aa W W' :=
 ⟨hb.block _ (lt_of_cell h.m), hb.block _ (lt_of_cell h.s), hb.block _ (lt_of_cell h.c), fun h0 p hp => by
  obtain ⟨b, off, e, hb', _⟩ := h.row (by rw [flat_length]; omega)
  rw [hp] at e; cases e
  exact hb.block _ hb'⟩
end

set_option maxRecDepth 100000 in
set_option maxHeartbeats 4000000 in
theorem arcs1_in (n : Nat) (hn : 1 ≤ n) (y Bm Bs Bi : Nat) (l : List Arc) (s c : Int) (aa : Option Addr) (ac : Nat) (hl : l.length ≤ 20000) (hsm : ∀ a ∈ l, Small a) (hout : ∀ a ∈ l, 0 ≤ a.out) (hinc : Increasing l) (hT : Small (tgt s c))
  (J Jx : List Arc → World → Prop) (Kp : World → World → Prop) (hJ : ∀ p W W', J p W → Below W.heap.size W W' → J p W') (hKp : ∀ W W', Kp W W' → Keep4 Bm Bs Bi l aa W W')
  (hY : ∀ pre x W, J pre W → pre.length < (runA l s c).length → x ∈ runA l s c → YieldAt Fence.wide (n - 1) Tryz.prog y #[.agg #[.int .i64 x.frm, .int .i64 x.inp, .int .i64 x.out, .int .i64 x.to]] W fun e W' =>
   (e = .returned (.bool true) ∧ J (pre ++ [x]) W' ∧ Kp W W') ∨ (e = .returned (.bool false) ∧ Jx (pre ++ [x]) W'))
  (W : World) (hI : IterAt W Bm Bs Bi l s c aa ac) (h0 : J [] W) :
  CallsIn Fence.wide n Tryz.prog 212 #[.func (.yield y) #[] #[], .pointer (some ⟨Bm, 0, none⟩), .pointer (some ⟨Bs, 0, none⟩), .pointer (some ⟨Bi, 0, none⟩)] W fun e W' => (∃ v, e = .returned v) ∧
   ((∃ ys, ys = runA l s c ∧ J ys W') ∨ (∃ pre, pre <+: runA l s c ∧ Jx pre W')) := by
 refine callsIn_of_wp Tryz.func212 rfl trivial ?_ rfl
 simp only [Tryz.ntmps212, List.size_toArray, List.length_cons, List.length_nil, Nat.reduceAdd, Nat.reduceSub, Array.replicate_succ, Array.replicate_zero, List.push_toArray, List.append_toArray, List.nil_append, List.cons_append]
 obtain ⟨SQ, hSQ⟩ : ∃ SQ, runA l s c = SQ := ⟨_, rfl⟩
 have HSQ := Lib.hid hSQ
 rw [hSQ] at hY ⊢
 clear hSQ
 have HI := Lib.hid hI
 have HQ := Lib.hid (bsf_any l (tgt s c) aa ac hl hsm hT hinc W hI.row)
 have HInc := Lib.hid (And.intro hinc (And.intro hsm hout))
 have H0 := Lib.hid h0
 have m3 := hI.m
 have s0 := hI.s
 have c0 := hI.c
 clear hI hinc hsm hout h0
 refine wpIn_wide.2 ?_
 go_wp2_with (go_at_call 213; refine HQ.out.mono ?_; rintro e w1 ⟨lo, f, rfl, hlo, hlt, hge, hb1⟩)
 have hk1 := HI.out.below hb1
 have hJ1 := hJ _ _ _ H0.out hb1
 have HL := Lib.hid (And.intro hlt hge)
 have HK1 := Lib.hid hk1
 have HJ1 := Lib.hid hJ1
 clear hlt hge hk1 hJ1 hb1 m3 s0 c0
 refine (wpIn_wide (n := n)).1 ?_
 gi_loopw [5] (fun i wr => ∃ (k : Nat) (pre : List Arc), i = .int .i64 k ∧ lo ≤ k ∧ k ≤ l.length ∧ SQ = pre ++ runA (l.drop k) s c ∧ J pre wr ∧ Keep4 Bm Bs Bi l aa W wr) (fun i _ => l.length - (intOf i).toNat)
 case atStart => exact ⟨lo, [], rfl, Nat.le_refl _, hlo, by rw [← HSQ.out]; exact runA_drop lo (fun t ht a => HL.out.1 t a ht) HInc.out.2.2, HJ1.out, HK1.out⟩
 case round =>
  obtain ⟨k, pre, rfl, hlk, hkl, hseq, hJs, hkw⟩ := hrel
  have Hseq := Lib.hid hseq
  have HJs := Lib.hid hJs
  have hIr := HI.out.keep hkw
  have m3 := hIr.m
  have s0 := hIr.s
  have c0 := hIr.c
  have Hkw := Lib.hid hkw
  clear hseq hJs hkw
  by_cases hk : k < l.length
  ·obtain ⟨b, off, rfl, hb, hc⟩ := hIr.row.arcs (by omega)
   obtain ⟨x0, x1, x2, x3⟩ := hc k hk
   obtain ⟨x, hxe⟩ : ∃ x, x = l[k] := ⟨_, rfl⟩
   rw [← hxe] at x0 x1 x2 x3
   have Hxe := Lib.hid (show l[k]? = some x by rw [hxe]; exact List.getElem?_eq_getElem hk)
   clear hxe hc hIr
   have hd : decide ((k : Int) < (l.length : Int)) = true := decide_eq_true (by omega)
   have hd' : decide (k < l.length) = true := decide_eq_true hk
   by_cases hm : x.frm = s ∧ x.inp = c
   ·have hsq : SQ = pre ++ x :: runA (l.drop (k + 1)) s c := by rw [Hseq.out, runA_next k x Hxe.out hm]
    have d1 : (x.frm == s) = true := by simpa using hm.1
    have d2 : (x.inp == c) = true := by simpa using hm.2
    have Hsq := Lib.hid hsq
    clear hm hsq
    gi_wp2
    refine wpIn_wide.2 ?_
    go_quiet (fail)
    obtain ⟨fn, tmps, assign, body, hy, hR⟩ := hY pre x (wr.drewN nq) (hJ _ _ _ HJs.out (Go.below_drewN (Below.refl _ _) _)) (by rw [Hsq.out]; simp) (by rw [Hsq.out]; simp)
    gi_wp2
    refine hR.mono ?_
    rintro e W3 (⟨rfl, hJ3, hk3⟩ | ⟨rfl, hJx3⟩)
    ·gi_wp2
     exact ⟨⟨k + 1, pre ++ [x], by go_num, by omega, by omega, by rw [Hsq.out]; simp, hJ3, (Hkw.out.drewN nq).trans (hKp _ _ hk3)⟩, by simp [intOf]; omega⟩
    ·gi_wp2
     refine bodyPost_ret (results_none rfl _ _ _) rfl ?_
     exact ⟨⟨_, rfl⟩, .inr ⟨_, by rw [Hsq.out]; exact ⟨runA (l.drop (k + 1)) s c, by simp⟩, hJx3⟩⟩
   ·have hsq : SQ = pre := by rw [Hseq.out, runA_stop HInc.out.1 k x Hxe.out (HL.out.2 k x hlk Hxe.out) HInc.out.2.2 hm, List.append_nil]
    have Hsq := Lib.hid hsq
    clear hsq
    by_cases hf : x.frm = s
    ·have d1 : (x.frm == s) = true := by simpa using hf
     have d2 : (x.inp == c) = false := by rw [beq_eq_false_iff_ne]; exact fun e => hm ⟨hf, e⟩
     clear hm hf
     gi_wp2
     refine wpIn_wide.2 ?_
     go_quiet (fail)
     gi_wp2
     go_end0
     exact ⟨⟨_, rfl⟩, .inl ⟨SQ, rfl, by rw [Hsq.out]; exact hJ _ _ _ HJs.out (Go.below_drewN (Below.refl _ _) _)⟩⟩
    ·have d1 : (x.frm == s) = false := by rw [beq_eq_false_iff_ne]; exact hf
     clear hm hf
     gi_wp2
     refine wpIn_wide.2 ?_
     go_quiet (fail)
     gi_wp2
     go_end0
     exact ⟨⟨_, rfl⟩, .inl ⟨SQ, rfl, by rw [Hsq.out]; exact hJ _ _ _ HJs.out (Go.below_drewN (Below.refl _ _) _)⟩⟩
  ·obtain rfl : k = l.length := by omega
   have hd : decide ((l.length : Int) < (l.length : Int)) = false := decide_eq_false (by omega)
   have hsq : SQ = pre := by rw [Hseq.out, List.drop_of_length_le (Nat.le_refl _), runA_nil, List.append_nil]
   have Hsq := Lib.hid hsq
   clear hsq hIr
   gi_wp2
   refine wpIn_wide.2 ?_
   go_quiet (fail)
   gi_wp2
   go_end0
   exact ⟨⟨_, rfl⟩, .inl ⟨SQ, rfl, by rw [Hsq.out]; exact hJ _ _ _ HJs.out (Go.below_drewN (Below.refl _ _) _)⟩⟩

/-- The iterator's contract, over the arcs that it yields. -/
theorem arcs_seq (n : Nat) (hn : 1 ≤ n) (Bm Bs Bi : Nat) (l : List Arc) (s c : Int) (aa : Option Addr) (ac : Nat) (hl : l.length ≤ 20000) (hsm : ∀ a ∈ l, Small a) (hout : ∀ a ∈ l, 0 ≤ a.out) (hinc : Increasing l) (hT : Small (tgt s c))
  (W : World) (hI : IterAt W Bm Bs Bi l s c aa ac) :
  SeqStopsK Fence.wide n Tryz.prog 212 #[.pointer (some ⟨Bm, 0, none⟩), .pointer (some ⟨Bs, 0, none⟩), .pointer (some ⟨Bi, 0, none⟩)] (fun x : {x // x ∈ runA l s c} => #[.agg #[.int .i64 x.1.frm, .int .i64 x.1.inp, .int .i64 x.1.out, .int .i64 x.1.to]])
   (Keep4 Bm Bs Bi l aa) (fun ys => ys.map (·.1) = runA l s c) (fun _ => True) (runA l s c).length W := by
 intro y J Jx W1 hW hJ hJx hY h0
 refine (arcs1_in n hn y Bm Bs Bi l s c aa ac hl hsm hout hinc hT (fun p W => ∃ q : List {x // x ∈ runA l s c}, q.map (·.1) = p ∧ J q W) (fun p W => ∃ q : List {x // x ∈ runA l s c}, q.map (·.1) = p ∧ Jx q W) (Keep4 Bm Bs Bi l aa)
  (fun p X Y h hb => ?_) (fun _ _ h => h) ?_ W1 (hI.keep (hI.below hW)) ⟨[], rfl, h0⟩).mono ?_
 ·obtain ⟨q, hq, h⟩ := h
  exact ⟨q, hq, hJ q X Y none h (grown_of_below hb none) (by simp)⟩
 ·rintro pre x X ⟨q, rfl, h⟩ hlen hx
  obtain ⟨fn, tmps, assign, body, hy, hR⟩ := hY q ⟨x, hx⟩ X h (by simpa using hlen)
  refine ⟨fn, tmps, assign, body, hy, hR.mono ?_⟩
  rintro e X' (⟨he, hj, hk⟩ | ⟨he, hj⟩)
  ·exact .inl ⟨he, ⟨q ++ [⟨x, hx⟩], by simp, hj⟩, hk⟩
  ·exact .inr ⟨he, ⟨q ++ [⟨x, hx⟩], by simp, hj⟩⟩
 ·rintro e X ⟨hv, (⟨ys, rfl, q, hq, hj⟩ | ⟨pre, _, q, rfl, hj⟩)⟩
  ·exact ⟨hv, .inl ⟨q, hq, hj⟩⟩
  ·exact ⟨hv, .inr ⟨q, trivial, hj⟩⟩

theorem arcs_any (s c : Int) (st start : Int) (f1 f2 : Value) (w : World) :
  Calls Tryz.prog 169 #[.agg #[.int .i64 st, .int .i64 start, f1, f2], .int .i64 s, .int .i64 c] w fun e w' =>
   e = .returned (.func (.func 212) #[] #[.pointer (some ⟨w.heap.size, 0, none⟩), .pointer (some ⟨w.heap.size + 1, 0, none⟩), .pointer (some ⟨w.heap.size + 2, 0, none⟩)]) ∧
   w' = ((w.alloc (.cells #[.int .i64 st, .int .i64 start, f1, f2] 96)).alloc (.cells #[.int .i64 s] 3)).alloc (.cells #[.int .i64 c] 3) := by
 go_enter Tryz.func169, Tryz.ntmps169
 go_wp2
 go_ret
 exact ⟨rfl, rfl⟩
end Go.Proofs.YthachfkcgdfdfaaGreatDoor
/- K5 · K6 -/
/- Walk: machine.silent: whether there is a circle of arcs that read nothing. -/
namespace Go.Proofs.YthachfkcgdfdfaaGreatDoor
open Go.RowKit Classical
open Go.Shelf
attribute [local go_sem] Oper.semAt_some
theorem undef_bool (b : Bool) : (some undef = some (Value.bool b)) = False := by simp [undef]
theorem undef_bool' (b : Bool) : (undef = Value.bool b) = False := by simp [undef]
attribute [local go_sem] undef_bool undef_bool'

theorem Chg.grown {S : Nat → Prop} {w w' w'' : World} {row : Option Nat} (h : Chg S w w') (hg : w'.grownBy w'' row) (hr : ∀ r, row = some r → w.heap.size ≤ r) : Chg S w w'' :=
 ⟨hg.os.trans h.os, hg.tape.trans h.tape, hg.output.trans h.output, Nat.le_trans h.size hg.size, fun k hk hS => (hg.block k (Nat.lt_of_lt_of_le hk h.size) (fun e => by have := hr k e.symm; omega)).trans (h.block k hk hS)⟩
theorem Chg.trans_new {S T : Nat → Prop} {w w' w'' : World} (h : Chg S w w') (k : Chg T w' w'') (hT : ∀ i, T i → ¬ i < w.heap.size) : Chg S w w'' :=
 ⟨k.os.trans h.os, k.tape.trans h.tape, k.output.trans h.output, Nat.le_trans h.size k.size, fun i hi hS => (k.block i (Nat.lt_of_lt_of_le hi h.size) (fun ht => hT i ht hi)).trans (h.block i hi hS)⟩
theorem Chg.putObj {S : Nat → Prop} {w w' : World} (h : Chg S w w') {D : Nat} (hD : w.heap.size ≤ D) (o : Obj) : Chg S w (w'.putObj D o) :=
 ⟨h.os, h.tape, h.output, by rw [World.putObj_size]; exact h.size, fun k hk hS => (World.putObj_heap_other (by omega)).trans (h.block k hk hS)⟩
theorem keepsFrom_chg {S : Nat → Prop} {W W' : World} (B : Nat) (h : Chg S W W') (hS : ∀ k, S k → ∃ (cs : Array Value) (t : TypeId), Blk W k cs t) : KeepsFrom B W W' :=
 ⟨h.size, fun k o _ hk ho => by
  refine (h.block k (Array.getElem?_eq_some_iff.1 hk).1 (fun hs => ?_)).trans hk
  obtain ⟨cs, t, hb⟩ := hS k hs
  unfold Blk at hb
  rw [hb] at hk; cases hk; cases ho⟩
theorem RowAt.chg {S : Nat → Prop} {w w' : World} {B : Nat} {a : Option Addr} {xs : List Value} (h : RowAt w B a xs) (hc : Chg S w w') (hB : B ≤ w.heap.size) (hS : 0 < xs.length → ∀ p, a = some p → ¬ S p.block) : RowAt w' B a xs := fun hn => by
 obtain ⟨b, off, e, hb, hx⟩ := h hn
 exact ⟨b, off, e, hb, fun i x hi => (heap_cell (hc.block b (by omega) (hS hn _ e)) (off + i)).trans (hx i x hi)⟩
theorem blk_put {W : World} {b : Nat} {cs : Array Value} {t : TypeId} (h : Blk W b cs t) {D : Nat} (hD : b ≠ D) (o : Obj) : Blk (W.putObj D o) b cs t := (World.putObj_heap_other hD).trans h
theorem bpm_mark {F : Fence} {n : Nat} {P : Program} {fn : Func} {R : Ending → World → Prop} {a : Act} {w : World} {v : Value} {D : Nat}
  (hK : w.heap[D]? = some (.deferred (some []))) (hr : (results fn a.tmps).run P (w.putObj D (.deferred none)) = .ok v (w.putObj D (.deferred none))) (hd : a.defers = [{ target := .collected D, args := #[] }]) (hR : R (.returned v) (w.putObj D (.deferred none))) : bodyPostM F n P fn R .ret a w := by
 show LeavesInM F n P fn a.tmps R a.defers .returning w
 rw [hd]
 exact ⟨by simp, .inl ⟨_, _, rfl, run_takeDeferred hK, v, hr, hR⟩⟩

theorem ownBlk {W W' : World} {b : Nat} {cs : Array Value} {t : TypeId} {row : Option Nat} (h : Blk W b cs t) (hg : W.grownBy W' row) (hr : ∀ r, row = some r → ∃ o : Obj, W.heap[r]? = some o ∧ o.isCells = false) : Blk W' b cs t := by
 refine h.grown hg (fun e => ?_)
 obtain ⟨ob, ho, hc⟩ := hr _ e.symm
 rw [show W.heap[b]? = _ from h] at ho
 cases ho
 cases hc

/-- What visiting a state answers: the colours behind it, or a circle. -/
def VisitPost (M : Mach) (sn : List Int) (s bs : Nat) (w : World) (e : Ending) (w' : World) : Prop :=
 ∃ (r : Bool) (sn' : List Int), e = .returned (.bool r) ∧ Blk w' bs (nums sn').toArray 3 ∧ sn'.length = sn.length ∧ Chg (fun k => k = bs) w w' ∧ (r = true → Circle M) ∧ (r = false → VRes M sn s sn')

/-- visit's way out. -/
theorem visit_mark {M : Mach} {sn sn' : List Int} {s bs : Nat} {w W : World} {n D : Nat} {tmps : Array Value} {r : Bool} (t5 : tmps[5]?.getD undef = .pointer (some ⟨w.heap.size, 0, none⟩)) (hD : w.heap.size < D) (hbsl : bs < w.heap.size)
  (hK : W.heap[D]? = some (.deferred (some []))) (hr : Blk W w.heap.size #[.bool r] 4) (hb : Blk W bs (nums sn').toArray 3) (hl : sn'.length = sn.length) (hc : Chg (fun k => k = bs) w W) (h1 : r = true → Circle M) (h2 : r = false → VRes M sn s sn') :
  bodyPostM Fence.wide n Tryz.prog Tryz.f168 (VisitPost M sn s bs w) .ret { tmps := tmps, defers := [{ target := .collected D, args := #[] }] } W := by
 have m1 := (blk_put hr (D := D) (by omega) (.deferred none)).cell 0
 simp only [List.getElem?_toArray, List.getElem?_cons_zero] at m1
 refine bpm_mark (v := .bool r) hK ?_ rfl ?_
 ·simp [results, Tryz.results168, go_sem, t5, m1]
 ·exact ⟨r, sn', rfl, blk_put hb (by omega) _, hl, hc.putObj (by omega) _, h1, h2⟩

set_option maxRecDepth 100000 in
set_option maxHeartbeats 4000000 in
theorem visit_any (M : Mach) (hv : ValidM M) (Bx Bm Bv bs : Nat) (hne : Bx ≠ bs ∧ Bm ≠ bs ∧ Bv ≠ bs) (fa : Option Addr) (fc : Nat) (aa : Option Addr) (ac : Nat) (haa : 0 < M.arcs.length → ∀ p, aa = some p → p.block ≠ bs) : ∀ (f : Nat) (s : Nat) (sn : List Int) (w : World),
  sn.count 0 ≤ f → (sn.length : Int) = M.states → sn[s]? = some 0 → DoneOk M sn → Cols sn → (∀ u : Nat, sn[u]? = some 1 → WayR (Ed M) u s) →
  Blk w bs (nums sn).toArray 3 → Blk w Bx #[.slice (some ⟨bs, 0, none⟩) sn.length sn.length] 85 →
  Blk w Bm #[.int .i64 M.states, .int .i64 M.start, .slice fa M.final.length fc, .slice aa M.arcs.length ac] 96 →
  (∃ T, Blk w Bv #[.func (.func 168) #[] #[.pointer (some ⟨Bx, 0, none⟩), .pointer (some ⟨Bm, 0, none⟩), .pointer (some ⟨Bv, 0, none⟩)]] T) →
  RowAt w w.heap.size aa (flat M.arcs) →
  Calls Tryz.prog 168 #[.int .i64 s, .pointer (some ⟨Bx, 0, none⟩), .pointer (some ⟨Bm, 0, none⟩), .pointer (some ⟨Bv, 0, none⟩)] w (VisitPost M sn s bs w) := by
 intro f
 induction f with
 | zero =>
  intro s sn w hf _ h0
  exfalso
  have := count_set h0
  omega
 | succ f ih =>
  intro s sn w hf hlen h0 hok hcol hop hbs hbx hbm hbv hrow
  obtain ⟨TV, hbv⟩ := hbv
  have hs : s < sn.length := (List.getElem?_eq_some_iff.1 h0).1
  have hst : M.states ≤ 4000 := hv.most
  obtain ⟨W0, hW0⟩ : ∃ W0 : World, W0 = w.alloc (.cells #[.bool false] 4) := ⟨_, rfl⟩
  have hr0 : Boxed W0 w.heap.size 4 (.bool false) := by rw [hW0]; exact Boxed.new _ _ _
  have hb0 : Below w.heap.size w W0 := by rw [hW0]; exact (Below.refl _ _).alloc (Nat.le_refl _) _
  have hbs0 := hbs.below hb0 hbs.lt
  have hbx0 := hbx.below hb0 hbx.lt
  have xc := hbx0.cell 0
  have sc := hbs0.cell s
  have sf := hbs0.frozen s
  have e1 : (nums sn).toArray[s]? = some (.int .i64 0) := by simp [nums, h0]
  rw [e1] at sc
  simp only [List.getElem?_toArray, List.getElem?_cons_zero] at xc
  have HW0 := Lib.hid hW0
  obtain ⟨W1, hW1⟩ : ∃ W1 : World, W1 = W0.setCell ⟨bs, s, none⟩ (.int .i64 1) := ⟨_, rfl⟩
  have hc1 : Chg (fun k => k = bs) w W1 := by rw [hW1]; exact (Chg.of_below _ hb0).trans (Chg.setCell (S := fun k => k = bs) (p := ⟨bs, s, none⟩) _ (.inl rfl) _)
  have hbs1 : Blk W1 bs (nums (sn.set s 1)).toArray 3 := by
   rw [hW1]; have := hbs0.set_ s (.int .i64 1); simpa [nums, List.map_set] using this
  have hbm1 := hbm.chg hc1 hne.2.1
  have hr1 : Boxed W1 w.heap.size 4 (.bool false) := by
   rw [hW1]; exact Blk.far (b := w.heap.size) hr0 (p := ⟨bs, s, none⟩) (by have := hbs.lt; show w.heap.size ≠ bs; omega) _
  have mc0 := hbm1.cell 0
  have mc1 := hbm1.cell 1
  have mc2 := hbm1.cell 2
  have mc3 := hbm1.cell 3
  simp only [List.getElem?_toArray, List.getElem?_cons_zero, List.getElem?_cons_succ] at mc0 mc1 mc2 mc3
  have HW1 := Lib.hid hW1
  have HOP := Lib.hid (And.intro hop (And.intro hok (And.intro hcol h0)))
  have HLen := Lib.hid hlen
  have HH := Lib.hid (And.intro hbs (And.intro hbx (And.intro hbm (And.intro hbv hrow))))
  have H0 := Lib.hid (And.intro hbs0 (And.intro hbx0 hb0))
  have H1 := Lib.hid (And.intro hc1 (And.intro hbs1 (And.intro hbm1 hr1)))
  clear hW0 hW1 e1 hop hok hcol h0 hlen hbs hbx hbm hbv hrow hbs0 hbx0 hb0 hr0 hc1 hbs1 hbm1 hr1
  refine (callsIn_wide (n := 5)).1 ?_
  refine callsIn_of_wp_marks Tryz.func168 rfl trivial ?_ rfl
  simp only [Tryz.ntmps168, List.size_toArray, List.length_cons, List.length_nil, Nat.reduceAdd, Nat.reduceSub, Array.replicate_succ, Array.replicate_zero, List.push_toArray, List.append_toArray, List.nil_append, List.cons_append]
  refine wpIn_wide.2 ?_
  go_upto_region 1 with (fail)
  rw [← HW0.out]
  go_upto_region 2 with (fail)
  rw [← HW1.out]
  go_wp2_with (go_at_call 169; refine (arcs_any _ _ _ _ _ _ _).mono ?_; rintro e w' ⟨rfl, hwe⟩)
  obtain ⟨W2, hW2⟩ : ∃ W2 : World, W2 = ((W1.alloc (.cells #[.int .i64 M.states, .int .i64 M.start, .slice fa M.final.length fc, .slice aa M.arcs.length ac] 96)).alloc (.cells #[.int .i64 s] 3)).alloc (.cells #[.int .i64 0] 3) := ⟨_, rfl⟩
  try rw [hwe]
  rw [← hW2]
  have g0 : Blk W2 W1.heap.size #[.int .i64 M.states, .int .i64 M.start, .slice fa M.final.length fc, .slice aa M.arcs.length ac] 96 := by rw [hW2]; exact ((Blk.new _ _ _).alloc _).alloc _
  have g1 : Blk W2 (W1.heap.size + 1) #[.int .i64 s] 3 := by rw [hW2]; have := (Blk.new (W1.alloc (.cells #[.int .i64 M.states, .int .i64 M.start, .slice fa M.final.length fc, .slice aa M.arcs.length ac] 96)) #[.int .i64 s] 3).alloc (.cells #[.int .i64 0] 3); simpa using this
  have g2 : Blk W2 (W1.heap.size + 2) #[.int .i64 0] 3 := by rw [hW2]; have := Blk.new ((W1.alloc (.cells #[.int .i64 M.states, .int .i64 M.start, .slice fa M.final.length fc, .slice aa M.arcs.length ac] 96)).alloc (.cells #[.int .i64 s] 3)) #[.int .i64 0] 3; simpa using this
  have hb12 : Below W1.heap.size W1 W2 := by rw [hW2]; exact (((Below.refl _ _).alloc (Nat.le_refl _) _).alloc (by simp) _).alloc (by simp; omega) _
  have hs2 : W2.heap.size = W1.heap.size + 3 := by rw [hW2]; simp
  have hc2 : Chg (fun k => k = bs) w W2 := H1.out.1.trans (Chg.of_below _ hb12)
  have hrow2 : RowAt W2 W2.heap.size aa (flat M.arcs) := (HH.out.2.2.2.2.chg hc2 (Nat.le_refl _) (fun h0 => haa (by rw [flat_length] at h0; omega))).more hc2.size
  have hrow2b : 0 < M.arcs.length → ∀ p, aa = some p → p.block < W1.heap.size := fun h0 p hp => by
   obtain ⟨b, off, e, hb, _⟩ := HH.out.2.2.2.2 (by rw [flat_length]; omega)
   rw [hp] at e; cases e
   exact Nat.lt_of_lt_of_le hb H1.out.1.size
  have hbs2 := H1.out.2.1.below hb12 H1.out.2.1.lt
  have hr2 : Blk W2 w.heap.size #[.bool false] 4 := Blk.below (b := w.heap.size) H1.out.2.2.2 hb12 H1.out.2.2.2.lt
  have hrl := H1.out.2.2.2.lt
  have hbsl := HH.out.1.lt
  have hbxl := HH.out.2.1.lt
  have hbml := HH.out.2.2.1.lt
  have hbvl := HH.out.2.2.2.1.lt
  have hIt : IterAt W2 W1.heap.size (W1.heap.size + 1) (W1.heap.size + 2) M.arcs s 0 aa ac := ⟨g0.cell 3, g1.cell 0, g2.cell 0, hrow2⟩
  have hsm : ∀ a ∈ M.arcs, Small a := fun a ha => small_of hst (hv.arcs a ha)
  have hout : ∀ a ∈ M.arcs, 0 ≤ a.out := fun a ha => by have := (hv.arcs a ha).2.2.2; unfold SymOk at this; omega
  have hto : ∀ a ∈ M.arcs, 0 ≤ a.to ∧ a.to < M.states := fun a ha => (hv.arcs a ha).2.1
  have hT : Small (tgt (s : Int) 0) := by
   have := HLen.out
   unfold Small tgt; simp; omega
  clear hwe hW2 hb12
  obtain ⟨o, ho⟩ : ∃ o, W1.heap.size = o := ⟨_, rfl⟩
  rw [ho] at g0 g1 g2 hs2 hrl hIt hrow2b ⊢
  have hwo : w.heap.size < o := hrl
  refine (wpIn_wide (n := 5)).1 ?_
  refine wpIn_rangeFunc_ownH (α := {x // x ∈ runA M.arcs s 0}) (encs := fun x => #[.agg #[.int .i64 x.1.frm, .int .i64 x.1.inp, .int .i64 x.1.out, .int .i64 x.1.to]]) (Kp := Keep4 o (o + 1) (o + 2) M.arcs aa) (S := fun ys => ys.map (·.1) = runA M.arcs s 0) (Sp := fun _ => True) (N := (runA M.arcs s 0).length) (w0 := W2)
   rfl (by omega) (gf := 212) (lb := #[.pointer (some ⟨o, 0, none⟩), .pointer (some ⟨o + 1, 0, none⟩), .pointer (some ⟨o + 2, 0, none⟩)]) rfl trivial (enters_of Tryz.func212 (by kernel_rfl) rfl)
   ?seq (fun h k => h.trans k) ?kb (Below.refl _ _) (fun _ => rfl)
   (fun pre W => ∃ sn2, VInv M sn s (pre.map (·.1)) sn2 ∧ Blk W bs (nums sn2).toArray 3 ∧ Blk W w.heap.size #[.bool false] 4 ∧ Chg (fun k => k = bs) W2 W)
   (fun c pre W => c = .ret ∧ Circle M ∧ ∃ sn2, sn2.length = sn.length ∧ Blk W bs (nums sn2).toArray 3 ∧ Blk W w.heap.size #[.bool true] 4 ∧ Chg (fun k => k = bs ∨ k = w.heap.size) W2 W)
   ?hI ?hIx ?h0
   (fun x a' W => ∃ g, a' = { tmps := #[.int .i64 s, .pointer (some ⟨Bx, 0, none⟩), .pointer (some ⟨Bm, 0, none⟩), .pointer (some ⟨Bv, 0, none⟩), undef, .pointer (some ⟨w.heap.size, 0, none⟩), .pointer (some ⟨g, 0, none⟩),
    .slice (some ⟨bs, 0, none⟩) sn.length sn.length, .int .i64 s, .pointer (some ⟨bs, s, none⟩), .agg #[.int .i64 M.states, .int .i64 M.start, .slice fa M.final.length fc, .slice aa M.arcs.length ac], .int .i64 s,
    .func (.func 212) #[] #[.pointer (some ⟨o, 0, none⟩), .pointer (some ⟨o + 1, 0, none⟩), .pointer (some ⟨o + 2, 0, none⟩)], .agg #[.int .i64 x.1.frm, .int .i64 x.1.inp, .int .i64 x.1.out, .int .i64 x.1.to],
    undef, undef, undef, undef, undef, undef, undef, undef, undef, undef, undef, undef, undef, undef, undef, undef, undef, undef, undef, undef, undef, undef, undef], defers := [] } ∧ Blk W g #[.int .i64 x.1.frm, .int .i64 x.1.inp, .int .i64 x.1.out, .int .i64 x.1.to] 177) ?hAx ?assign ?body ?done ?stop
  case seq =>
   exact arcs_seq 4 (by omega) o (o + 1) (o + 2) M.arcs s 0 aa ac hv.arcsLen hsm hout hv.arcsInc hT W2 hIt
  case kb =>
   intro W l ob ob' hl _ _ _
   exact ⟨World.putObj_heap_other (by omega), World.putObj_heap_other (by omega), World.putObj_heap_other (by omega), fun h0 p hp => World.putObj_heap_other (by have := hrow2b h0 p hp; omega)⟩
  case hI =>
   rintro pre X Y row ⟨sn2, h1, h2, h3, h4⟩ hg hr
   exact ⟨sn2, h1, ownBlk h2 hg (fun r e => (hr r e).2), ownBlk h3 hg (fun r e => (hr r e).2), h4.grown hg (fun r e => (hr r e).1)⟩
  case hIx =>
   rintro c pre X Y row ⟨hc, hcir, sn2, h1, h2, h3, h4⟩ hg hr
   exact ⟨hc, hcir, sn2, h1, ownBlk h2 hg (fun r e => (hr r e).2), ownBlk h3 hg (fun r e => (hr r e).2), h4.grown hg (fun r e => (hr r e).1)⟩
  case h0 => exact ⟨sn.set s 1, VInv.start HOP.out.2.2.2 HOP.out.2.1 HOP.out.2.2.1, hbs2, hr2, Chg.refl _ _⟩
  case hAx =>
   rintro x a' _ X Y row ⟨g, rfl, hg0⟩ hg hr
   exact ⟨g, rfl, ownBlk hg0 hg (fun r e => (hr r e).2)⟩
  case assign =>
   rintro l pre x W K ⟨sn2, h1, h2, h3, h4⟩ hK
   gi_wp2
   refine hK _ _ ?_ ?_ ⟨sn2, h1, h2.alloc _, h3.alloc _, h4.trans (Chg.alloc _ _ _)⟩ ⟨_, rfl, Blk.new _ _ _⟩
   ·exact ((Below.refl _ W).alloc (Nat.le_refl _) _ |> fun h => keepsFrom_chg (S := fun _ => False) _ (Chg.of_below _ h) (fun _ h => h.elim))
   ·exact (hIt.keep ⟨h4.block o (by omega) (by omega), h4.block (o + 1) (by omega) (by omega), h4.block (o + 2) (by omega) (by omega), fun h0 p hp => h4.block p.block (by have := hrow2b h0 p hp; omega) (haa h0 p hp)⟩).below ((Below.refl _ W).alloc (Nat.le_refl _) _)
  case body =>
   rintro l pre ⟨x, hxr⟩ a' W hl hrec ⟨sn2, h1, h2, h3, h4⟩ ⟨g, rfl, hg⟩ hlt
   dsimp only at hg ⊢
   have hxv := hto x (mem_runA.1 hxr).1
   have hl2 : sn2.length = sn.length := by rw [h1.grew.len]; simp
   obtain ⟨t, ht⟩ : ∃ t : Nat, x.to = t := ⟨x.to.toNat, by omega⟩
   have htl : t < sn2.length := by have := HLen.out; omega
   have hcw : Chg (fun k => k = bs) w W := hc2.trans h4
   have xcW := (HH.out.2.1.chg hcw hne.1).cell 0
   have vcW := (HH.out.2.2.2.1.chg hcw hne.2.2).cell 0
   have x3 := hg.cell 3
   have tc := h2.cell t
   have rc := Blk.cell (b := w.heap.size) h3 0
   have rf := Blk.frozen (b := w.heap.size) h3 0
   have etc : (nums sn2).toArray[t]? = some (.int .i64 sn2[t]) := by simp [nums, htl]
   rw [etc] at tc
   rw [ht] at x3
   simp only [List.getElem?_toArray, List.getElem?_cons_zero, List.getElem?_cons_succ] at xcW vcW x3 rc
   rw [ht]
   obtain ⟨col, hcol⟩ : ∃ col, col = sn2[t] := ⟨_, rfl⟩
   rw [← hcol] at tc
   have Hcol := Lib.hid (show sn2[t]? = some col by rw [hcol]; exact List.getElem?_eq_getElem htl)
   clear etc hcol
   rcases h1.cols col (List.mem_of_getElem? Hcol.out) with rfl | rfl | rfl
   ·have hfc : sn2.count 0 ≤ f := by
     have a1 := h1.grew.count
     have a2 := count_set HOP.out.2.2.2
     omega
    have hop2 : ∀ u : Nat, sn2[u]? = some 1 → WayR (Ed M) u t := fun u hu => .inr (by have := ways_open HOP.out.1 hs h1 hxr u hu; rwa [ht] at this)
    have hQ := ih t sn2 W hfc (by rw [hl2]; exact HLen.out) Hcol.out h1.ok h1.cols hop2 h2 (by rw [hl2]; exact HH.out.2.1.chg hcw hne.1) (HH.out.2.2.1.chg hcw hne.2.1) ⟨TV, HH.out.2.2.2.1.chg hcw hne.2.2⟩ ((HH.out.2.2.2.2.chg hcw (Nat.le_refl _) (fun h0 => haa (by rw [flat_length] at h0; omega))).more hcw.size)
    have HQ := Lib.hid (CallsIn.inRound l ((callsIn_wide (n := 2)).2 hQ))
    have H123 := Lib.hid (And.intro h1 (And.intro h2 (And.intro h3 h4)))
    clear hQ hop2 h1 h2 h3 h4 hfc
    gi_wp2
    refine ⟨trivial, HQ.out.mono ?_⟩
    rintro e w4 ⟨r, sn4, rfl, k1, k2, k3, k4, k5⟩
    have hrb : Blk w4 w.heap.size #[.bool false] 4 := Blk.chg (b := w.heap.size) H123.out.2.2.1 k3 (by show w.heap.size ≠ bs; omega)
    have rc4 := Blk.cell (b := w.heap.size) hrb 0
    have rf4 := Blk.frozen (b := w.heap.size) hrb 0
    simp only [List.getElem?_toArray, List.getElem?_cons_zero] at rc4
    have hkf := keepsFrom_chg W2.heap.size k3 (fun k hk => by subst hk; exact ⟨_, _, H123.out.2.1⟩)
    have h4' := H123.out.2.2.2.trans k3
    have hkp : Keep4 o (o + 1) (o + 2) M.arcs aa W w4 := by
     have hsz := H123.out.2.2.2.size
     exact ⟨k3.block o (by omega) (by omega), k3.block (o + 1) (by omega) (by omega), k3.block (o + 2) (by omega) (by omega), fun h0 p hp => k3.block p.block (by have := hrow2b h0 p hp; omega) (haa h0 p hp)⟩
    have HR := Lib.hid (And.intro k1 (And.intro hrb (And.intro hkf (And.intro h4' (And.intro hkp (And.intro k4 k5))))))
    clear k1 hrb hkf h4' hkp k3 k4 k5
    rcases r with _ | _
    ·gi_wp2
     refine ⟨HR.out.2.2.1, HR.out.2.2.2.2.1, sn4, ?_, HR.out.1, HR.out.2.1, HR.out.2.2.2.1⟩
     have hv4 := HR.out.2.2.2.2.2.2 (by trivial)
     rw [List.map_append]
     exact H123.out.1.new (x := x) (by rw [ht, Int.toNat_natCast]; exact hv4)
    ·gi_wp2
     refine ⟨HR.out.2.2.1.trans (keepsFrom_chg (S := fun k => k = w.heap.size) _ (Chg.setCell (S := fun k => k = w.heap.size) (p := ⟨w.heap.size, 0, none⟩) _ (.inl rfl) _) (fun k hk => by subst hk; exact ⟨_, _, HR.out.2.1⟩)), rfl, HR.out.2.2.2.2.2.1 (by trivial), sn4, by omega, Blk.far HR.out.1 (p := ⟨w.heap.size, 0, none⟩) (by show bs ≠ w.heap.size; omega) _, Blk.set_ HR.out.2.1 0 _, (HR.out.2.2.2.1.mono (fun k hk => .inl hk)).trans (Chg.setCell (S := fun k => k = bs ∨ k = w.heap.size) (p := ⟨w.heap.size, 0, none⟩) _ (.inl (.inr rfl)) _)⟩
   ·have hcir := Lib.hid (h1.circle HOP.out.1 hs hxr hxv.1 (by rw [ht, Int.toNat_natCast]; exact Hcol.out))
    gi_wp2_with (refine wpListIn_skip (by rfl) (by rfl) ?_)
    refine ⟨keepsFrom_chg (S := fun k => k = w.heap.size) _ (Chg.setCell (S := fun k => k = w.heap.size) (p := ⟨w.heap.size, 0, none⟩) _ (.inl rfl) _) (fun k hk => by subst hk; exact ⟨_, _, h3⟩), rfl, hcir.out, sn2, hl2, Blk.far h2 (p := ⟨w.heap.size, 0, none⟩) (by show bs ≠ w.heap.size; omega) _, Blk.set_ h3 0 _, (h4.mono (fun k hk => .inl hk)).trans (Chg.setCell (S := fun k => k = bs ∨ k = w.heap.size) (p := ⟨w.heap.size, 0, none⟩) _ (.inl (.inr rfl)) _)⟩
   ·have hold := Lib.hid (h1.old (x := x) (by rw [ht, Int.toNat_natCast]; exact Hcol.out))
    gi_wp2_with (refine wpListIn_skip (by rfl) (by rfl) ?_)
    exact ⟨KeepsFrom.refl _ _, Keep4.refl, sn2, by rw [List.map_append]; exact hold.out, h2, h3, h4⟩
  case done =>
   rintro D ys W hD hys ⟨sn2, h1, h2, h3, h4⟩ hK
   rw [hys] at h1
   have hres := h1.finish HOP.out.2.2.2 (fun a ha => (hto a ha).1)
   have hl2 : sn2.length = sn.length := by rw [h1.grew.len]; simp
   have hself := h1.self1 hs
   have hcw : Chg (fun k => k = bs) w W := hc2.trans h4
   have xcW := (HH.out.2.1.chg hcw hne.1).cell 0
   have tc := h2.cell s
   have tf := h2.frozen s
   have rc := Blk.cell (b := w.heap.size) h3 0
   have rf := Blk.frozen (b := w.heap.size) h3 0
   have etc : (nums sn2).toArray[s]? = some (.int .i64 1) := by simp [nums, hself]
   rw [etc] at tc
   simp only [List.getElem?_toArray, List.getElem?_cons_zero] at xcW rc
   have hsl : s < sn2.length := by omega
   obtain ⟨W3, hW3⟩ : ∃ W3 : World, W3 = W.setCell ⟨bs, s, none⟩ (.int .i64 2) := ⟨_, rfl⟩
   have k2 : Blk W3 bs (nums (sn2.set s 2)).toArray 3 := by
    rw [hW3]; have := h2.set_ s (.int .i64 2); simpa [nums, List.map_set] using this
   have k3 : Blk W3 w.heap.size #[.bool false] 4 := by rw [hW3]; exact Blk.far (b := w.heap.size) h3 (p := ⟨bs, s, none⟩) (by show w.heap.size ≠ bs; omega) _
   have hc3 : Chg (fun k => k = bs) w W3 := by rw [hW3]; exact hcw.trans (Chg.setCell (S := fun k => k = bs) (p := ⟨bs, s, none⟩) _ (.inl rfl) _)
   have hK3 : W3.heap[D]? = some (.deferred (some [])) := by rw [hW3]; exact (Below.heap_setCell W ⟨bs, s, none⟩ _ D (by show D ≠ bs; omega)).trans hK
   have rc3 := Blk.cell (b := w.heap.size) k3 0
   have rf3 := Blk.frozen (b := w.heap.size) k3 0
   simp only [List.getElem?_toArray, List.getElem?_cons_zero] at rc3
   have HW3 := Lib.hid hW3
   have H3 := Lib.hid (And.intro k2 (And.intro k3 (And.intro hc3 (And.intro hK3 hres))))
   clear etc h1 h2 h3 h4 hcw hself hres hK hW3 k2 k3 hc3 hK3
   gi_wp2
   go_upto_region 7 with (fail)
   rw [← HW3.out]
   go_wp2_with fail
   refine visit_mark (r := false) (sn' := sn2.set s 2) rfl (by omega) hbsl ?_ (Blk.set_ H3.out.2.1 0 _) (Blk.far H3.out.1 (p := ⟨w.heap.size, 0, none⟩) (by show bs ≠ w.heap.size; omega) _) (by simpa using hl2) ?_ (fun e => by cases e) (fun _ => H3.out.2.2.2.2)
   ·exact (Below.heap_setCell W3 ⟨w.heap.size, 0, none⟩ _ D (by show D ≠ w.heap.size; omega)).trans H3.out.2.2.2.1
   ·exact H3.out.2.2.1.trans_new (Chg.setCell (S := fun k => k = w.heap.size) (p := ⟨w.heap.size, 0, none⟩) _ (.inl rfl) _) (fun k hk hw => by omega)
  case stop =>
   rintro D c pre W hD _ ⟨rfl, hcir, sn2, hl2, h2, h3, h4⟩ hK
   gi_wp2
   exact visit_mark rfl (by omega) hbsl hK h3 h2 hl2 ⟨h4.os.trans hc2.os, h4.tape.trans hc2.tape, h4.output.trans hc2.output, Nat.le_trans hc2.size h4.size, fun k hk hS => (h4.block k (Nat.lt_of_lt_of_le hk hc2.size) (fun e => e.elim hS (fun e => by omega))).trans (hc2.block k hk hS)⟩ (fun _ => hcir) (fun e => by cases e)
end Go.Proofs.YthachfkcgdfdfaaGreatDoor

/- Walk: machine.silent, whole. -/
namespace Go.Proofs.YthachfkcgdfdfaaGreatDoor
open Go.RowKit Classical

theorem run_mkrow {P : Program} (t e : TypeId) (i : TypeInfo) (z : Value) (ht : P.underlying t = some (.slice e)) (hi : P.info? e = some i) (hz : i.zero = some z)
  (kl kc : IntKind) (n c : Nat) (hnc : n ≤ c) (hbytes : i.bytes * c ≤ 281474976710656) (h63 : c ≤ 9223372036854775807) (w : World) :
  (Instr.makeSlice t (.int kl (n : Int)) (.int kc (c : Int))).run P w = .ok (.slice (some ⟨w.heap.size, 0, none⟩) n c) (w.alloc (.cells (madeCells z.cells (c * i.size)) e)) := by
 have hb : (i.bytes : Int) * (c : Int) ≤ 281474976710656 := by
  have h : ((i.bytes * c : Nat) : Int) ≤ 281474976710656 := by omega
  rwa [Int.natCast_mul] at h
 have hr := run_make (P := P) w t e i z ht hi hz kl kc n c (by omega) (by omega) hb (by omega)
 simp only [Int.toNat_natCast] at hr
 exact hr
theorem madeCells_ints (n : Nat) : madeCells #[.int .i64 0] n = (nums (List.replicate n 0)).toArray := by
 apply Array.ext
 ·simp [madeCells, nums]
 ·intro i h1 h2
  simp [madeCells, Nat.mod_one, nums]

set_option maxRecDepth 100000 in
set_option maxHeartbeats 4000000 in
theorem silent_any (M : Mach) (hv : ValidM M) (v : Value) (w : World) (h : MachAt w w.heap.size v M) :
  Calls Tryz.prog 102 #[v] w fun e w' => e = .returned (.bool (decide (Circle M))) ∧ Below w.heap.size w w' := by
 obtain ⟨fa, fc, aa, ac, rfl, hfl, hal, hf, ha⟩ := h
 obtain ⟨i0, hi, hz0, hz1, hz2⟩ := info_parts info_int
 obtain ⟨n, hn⟩ : ∃ n : Nat, M.states = n := ⟨M.states.toNat, by have := hv.one; omega⟩
 have hn4 : n ≤ 4000 := by have := hv.most; omega
 have hmk := fun W => run_mkrow (P := Tryz.prog) 85 3 i0 (.int .i64 0) Tryz.underlying85 hi hz0 .i64 .i64 n n (Nat.le_refl _) (by rw [hz2]; omega) (by omega) W
 rw [hz1] at hmk
 have Hv := Lib.hid hv
 have Hrow := Lib.hid ha
 clear hf
 go_enter Tryz.func102, Tryz.ntmps102
 rw [hn]
 go_upto_block 1 with (fail)
 generalize hW0 : ((((w.alloc _).alloc _).alloc _).alloc _) = W0
 obtain ⟨b0, hb0⟩ : ∃ b, w.heap.size = b := ⟨_, rfl⟩
 have k0 : Blk W0 b0 #[.int .i64 n, .int .i64 M.start, .slice fa M.final.length fc, .slice aa M.arcs.length ac] 96 := by
  rw [← hW0, ← hb0]; exact (((Blk.new _ _ _).alloc _).alloc _).alloc _
 have k1 : Blk W0 (b0 + 1) (nums (List.replicate n 0)).toArray 3 := by
  rw [← hW0, ← hb0, ← madeCells_ints]
  have := ((Blk.new (w.alloc (.cells #[.int .i64 n, .int .i64 M.start, .slice fa M.final.length fc, .slice aa M.arcs.length ac] 96)) (madeCells #[.int .i64 0] n) 3).alloc (.cells #[.slice (some ⟨w.heap.size + 1, 0, none⟩) n n] 85))
  simp only [World.size_alloc] at this
  exact this.alloc _
 have k2 : Blk W0 (b0 + 2) #[.slice (some ⟨b0 + 1, 0, none⟩) n n] 85 := by
  rw [← hW0, ← hb0]
  have := (Blk.new ((w.alloc (.cells #[.int .i64 n, .int .i64 M.start, .slice fa M.final.length fc, .slice aa M.arcs.length ac] 96)).alloc (.cells (madeCells #[.int .i64 0] n) 3)) #[.slice (some ⟨w.heap.size + 1, 0, none⟩) n n] 85)
  simp only [World.size_alloc] at this
  exact this.alloc _
 have k3 : ∃ T, Blk W0 (b0 + 3) #[.func (.func 168) #[] #[.pointer (some ⟨b0 + 2, 0, none⟩), .pointer (some ⟨b0, 0, none⟩), .pointer (some ⟨b0 + 3, 0, none⟩)]] T := by
  rw [← hW0, ← hb0]
  have := fun T => Blk.new (((w.alloc (.cells #[.int .i64 n, .int .i64 M.start, .slice fa M.final.length fc, .slice aa M.arcs.length ac] 96)).alloc (.cells (madeCells #[.int .i64 0] n) 3)).alloc (.cells #[.slice (some ⟨w.heap.size + 1, 0, none⟩) n n] 85)) #[.func (.func 168) #[] #[.pointer (some ⟨w.heap.size + 2, 0, none⟩), .pointer (some ⟨w.heap.size, 0, none⟩), .pointer (some ⟨w.heap.size + 3, 0, none⟩)]] T
  simp only [World.size_alloc] at this
  exact ⟨_, this _⟩
 have hbw : Below w.heap.size w W0 := by
  rw [← hW0]; exact ((((Below.refl _ _).alloc (Nat.le_refl _) _).alloc (by simp) _).alloc (by simp; omega) _).alloc (by simp; omega) _
 have hsz : W0.heap.size = b0 + 4 := by rw [← hW0]; simp [hb0]
 have hrow0 := ha.below hbw (Nat.le_refl _)
 rw [hb0] at hrow0
 have haa : ∀ p, 0 < M.arcs.length → aa = some p → p.block < b0 := fun p hp e => by
  obtain ⟨b, off, e', hb, _⟩ := ha (by rw [flat_length]; omega)
  rw [e] at e'; cases e'; show b < b0; omega
 clear hW0 hmk
 rw [hb0]
 have HB := Lib.hid (And.intro k0 (And.intro k1 (And.intro k2 (And.intro k3 hrow0))))
 have Hb := Lib.hid (And.intro hbw hb0)
 clear k0 k1 k2 k3 hrow0 hbw ha hb0 hz0 hz1 hz2 hi
 go_loopw [12] (fun i wr => ∃ (k : Nat) (sn : List Int), i = .int .i64 k ∧ k ≤ n ∧ sn.length = n ∧ DoneOk M sn ∧ Cols sn ∧ (∀ u : Nat, sn[u]? ≠ some 1) ∧ (∀ u : Nat, u < k → sn[u]? = some 2) ∧ Blk wr (b0 + 1) (nums sn).toArray 3 ∧ Chg (fun k => k = b0 + 1) W0 wr) (fun i _ => n - (intOf i).toNat)
 case atStart =>
  refine ⟨0, List.replicate n 0, rfl, Nat.zero_le _, by simp, ⟨fun u t hu => ?_, fun u hu => ?_⟩, fun c hc => .inl (List.eq_of_mem_replicate hc), fun u hu => ?_, fun u hu => absurd hu (Nat.not_lt_zero _), HB.out.2.1, Chg.refl _ _⟩
  ·have := List.eq_of_mem_replicate (List.mem_of_getElem? hu); cases this
  ·have := List.eq_of_mem_replicate (List.mem_of_getElem? hu); cases this
  ·have := List.eq_of_mem_replicate (List.mem_of_getElem? hu); cases this
 case round =>
  obtain ⟨k, sn, rfl, hkn, hln, hok, hcol, hno1, hall, hbs, hc⟩ := hrel
  have hbw' := Hb.out.1.trans (hc.below (B := w.heap.size) (fun i hi => by have := Hb.out.2; omega) Hb.out.1.size)
  by_cases hk : k < n
  ·have xcW := (HB.out.2.2.1.chg hc (by omega)).cell 0
   have tc := hbs.cell k
   have etc : (nums sn).toArray[k]? = some (.int .i64 sn[k]) := by simp [nums, hln, hk]
   rw [etc] at tc
   obtain ⟨T, hvB⟩ := HB.out.2.2.2.1
   have vc := (hvB.chg hc (by omega)).cell 0
   simp only [List.getElem?_toArray, List.getElem?_cons_zero] at xcW vc
   obtain ⟨col, hcl⟩ : ∃ col, col = sn[k] := ⟨_, rfl⟩
   rw [← hcl] at tc
   have Hcol := Lib.hid (show sn[k]? = some col by rw [hcl]; exact List.getElem?_eq_getElem (by omega))
   clear etc hcl
   rcases hcol col (List.mem_of_getElem? Hcol.out) with rfl | rfl | rfl
   ·have hsm := hc.size
    have hQ := visit_any M Hv.out (b0 + 2) b0 (b0 + 3) (b0 + 1) ⟨by omega, by omega, by omega⟩ fa fc aa ac (fun h0 p hp => by have := haa p h0 hp; omega) (sn.count 0) k sn wr (Nat.le_refl _) (by rw [hln, hn]) Hcol.out hok hcol (fun u hu => absurd hu (hno1 u)) hbs (by rw [hln]; exact HB.out.2.2.1.chg hc (by omega)) (by rw [hn]; exact HB.out.1.chg hc (by omega)) ⟨T, hvB.chg hc (by omega)⟩
     ((HB.out.2.2.2.2.chg hc (by omega) (fun h0 p hp => by have := haa p (by rw [flat_length] at h0; omega) hp; omega)).more (by omega))
    have HQ := Lib.hid hQ
    have H := Lib.hid (And.intro hok (And.intro hcol (And.intro hno1 (And.intro hall (And.intro hbs hc)))))
    clear hQ hok hcol hno1 hall hbs hc hvB
    go_wp2_with (go_at_call 168; refine HQ.out.mono ?_; rintro e w4 ⟨r, sn4, rfl, k1, k2, k3, k4, k5⟩; have hc4 := H.out.2.2.2.2.2.trans k3; have hbF := Hb.out.1.trans (hc4.below (B := w.heap.size) (fun i hi => by have := Hb.out.2; omega) Hb.out.1.size); have HR := Lib.hid (And.intro k1 (And.intro k2 (And.intro hc4 (And.intro k4 k5)))); clear k1 k2 k3 k4 k5 hc4; rcases r with _ | _)
    ·have hv4 := HR.out.2.2.2.2 (by trivial)
     refine ⟨⟨k + 1, sn4, by go_num, by omega, HR.out.2.1.trans hln, hv4.ok, hv4.cols, fun u hu => H.out.2.2.1 u ((hv4.grew.opens u).1 hu), fun u hu => ?_, HR.out.1, HR.out.2.2.1⟩, by simp [intOf]; omega⟩
     rcases Nat.lt_succ_iff_lt_or_eq.1 hu with hu | rfl
     ·exact hv4.grew.done u (H.out.2.2.2.1 u hu)
     ·exact hv4.self
    ·have hcir := Lib.hid (HR.out.2.2.2.1 (by trivial))
     go_ret
     exact ⟨ret_yes hcir.out, hbF⟩
   ·exact absurd Hcol.out (hno1 k)
   ·have H := Lib.hid (And.intro hok (And.intro hcol (And.intro hno1 (And.intro hall (And.intro hbs hc)))))
    clear hok hcol hno1 hall hbs hc
    go_wp2_with fail
    refine ⟨⟨k + 1, sn, by go_num, by omega, hln, H.out.1, H.out.2.1, H.out.2.2.1, fun u hu => ?_, H.out.2.2.2.2.1, H.out.2.2.2.2.2⟩, by simp [intOf]; omega⟩
    rcases Nat.lt_succ_iff_lt_or_eq.1 hu with hu | rfl
    ·exact H.out.2.2.2.1 u hu
    ·exact Hcol.out
  ·obtain rfl : k = n := by omega
   have hncir := Lib.hid (show ¬ Circle M from no_circle hok (fun a ha => (Hv.out.arcs a ha).1) (fun u hu => hall u (by omega)))
   clear hok hcol hno1 hall hbs hc
   go_wp2_with fail
   go_ret
   exact ⟨ret_no hncir.out, hbw'⟩
end Go.Proofs.YthachfkcgdfdfaaGreatDoor
/- Walk: step's inner function (machine.step$1): a place is put into the set and the queue, unless it is there. -/
namespace Go.Proofs.YthachfkcgdfdfaaGreatDoor
open Go.RowKit Classical

/-- A row of places: whatever it begins at; its block is the call's own. -/
def QRow (w : World) (e : TypeId) (v : Value) (n : Nat) (cs : List Value) : Prop := cs.length = n * 2 ∧
 ((n = 0 ∧ ∃ ao, v = .slice ao 0 0) ∨ ∃ g off cap cur, v = .slice (some ⟨g, off, none⟩) n cap ∧ 0 < cap ∧ w.heap[g]? = some (.cells cur e (0, 0)) ∧ cur.size = off + cap * 2 ∧ n ≤ cap ∧ cap ≤ maxLen ∧ ∀ j, j < n * 2 → cur[off + j]? = cs[j]?)
def QOwn (v : Value) (k : Nat) : Prop := ∃ off n cap, v = .slice (some ⟨k, off, none⟩) n cap ∧ 0 < cap
theorem QRow.slice {w : World} {e : TypeId} {v : Value} {n : Nat} {cs : List Value} (h : QRow w e v n cs) : ∃ a c, v = .slice a n c := by
 rcases h.2 with ⟨rfl, ao, rfl⟩ | ⟨g, off, cap, cur, rfl, _⟩
 ·exact ⟨_, _, rfl⟩
 ·exact ⟨_, _, rfl⟩
theorem QRow.lt {w : World} {e : TypeId} {v : Value} {n : Nat} {cs : List Value} (h : QRow w e v n cs) {k : Nat} (hk : QOwn v k) : k < w.heap.size := by
 obtain ⟨off', n', cap', rfl, hc⟩ := hk
 rcases h.2 with ⟨rfl, ao, e'⟩ | ⟨g, off, cap, cur, e', _, hh, _⟩
 ·cases e'; omega
 ·cases e'; exact (Array.getElem?_eq_some_iff.1 hh).1
theorem QRow.cells {w : World} {e : TypeId} {v : Value} {n : Nat} {cs : List Value} (h : QRow w e v n cs) {k : Nat} (hk : QOwn v k) : ∃ cur, Blk w k cur e := by
 obtain ⟨off', n', cap', rfl, hc⟩ := hk
 rcases h.2 with ⟨rfl, ao, e'⟩ | ⟨g, off, cap, cur, e', _, hh, _⟩
 ·cases e'; omega
 ·cases e'; exact ⟨cur, hh⟩
theorem QRow.of_own {w : World} {base : Nat} {e : TypeId} {v : Value} {n : Nat} {cs : List Value} (h : w.ownsRow base e 2 v n cs) : QRow w e v n cs := by
 obtain ⟨hl, h1⟩ := h
 rcases h1 with ⟨rfl, rfl⟩ | ⟨g, cap, cur, rfl, hb, hh, hn, hm, hs, ht⟩
 ·exact ⟨hl, .inl ⟨rfl, _, rfl⟩⟩
 ·rcases Nat.eq_zero_or_pos cap with rfl | hc
  ·obtain rfl : n = 0 := by omega
   exact ⟨hl, .inl ⟨rfl, _, rfl⟩⟩
  ·refine ⟨hl, .inr ⟨g, 0, cap, cur, rfl, hc, hh, by omega, hn, hm, fun j hj => ?_⟩⟩
   rw [Nat.zero_add, ← ht, List.getElem?_take, if_pos hj, Array.getElem?_toList]
theorem QRow.chg {S : Nat → Prop} {w w' : World} {e : TypeId} {v : Value} {n : Nat} {cs : List Value} (h : QRow w e v n cs) (hc : Chg S w w') (hS : ∀ k, QOwn v k → ¬ S k) : QRow w' e v n cs := by
 obtain ⟨hl, h1⟩ := h
 rcases h1 with h1 | ⟨g, off, cap, cur, rfl, hc0, hh, r⟩
 ·exact ⟨hl, .inl h1⟩
 ·exact ⟨hl, .inr ⟨g, off, cap, cur, rfl, hc0, (hc.block g (Array.getElem?_eq_some_iff.1 hh).1 (hS g ⟨_, _, _, rfl, hc0⟩)).trans hh, r⟩⟩
theorem qown_new {w' : World} {base : Nat} {e : TypeId} {v : Value} {n : Nat} {cs : List Value} (h : w'.ownsRow base e 2 v n cs) : ∀ k, QOwn v k → base ≤ k := by
 rintro k ⟨off, n', cap, rfl, hc⟩
 rcases h.2 with ⟨e', _⟩ | ⟨g, cap', cur, e', hb, _⟩
 ·cases e'
 ·cases e'; exact hb

/-- One more. -/
theorem wpList_append_q {P : Program} (w : World) {ops : Array Oper} {rest : List Oper} {o : Oper} {a : Act} {Q : Exit → Act → World → Prop}
  (hg : o.guard = none) (s x : Operand) (t : TypeId) (hop : o.op = Op.call { callee := Callee.builtin Builtin.append, args := #[s, x], argTypes := #[t, t] })
  (e : TypeId) (i : TypeInfo) (z : Value) (bytes : Nat) (h1 : P.underlying t = some (.slice e)) (h2 : P.info? e = some i) (h3 : i.zero = some z) (h4 : i.size = 2) (h5 : i.bytes = bytes) (h6 : z.cells.size = 2)
  (v : Value) (n : Nat) (cs : List Value) (hs : a.eval s = v) (hq : QRow w e v n cs) (ad : Addr) (c : Nat) (news : List Value) (hx : a.eval x = .slice (some ad) 1 c) (hn : news.length = 2) (hc : ∀ j u, news[j]? = some u → w.cell? (ad.add j) = some u) (h1c : ∀ u ∈ news, u.oneCell' = true)
  (b1 : n + 1 ≤ maxLen) (b2 : (n + 1) * bytes ≤ 140737488355328)
  (hK : ∀ v' w', QRow w' e v' (n + 1) (cs ++ news) → Chg (fun k => QOwn v k) w w' → (∀ k, QOwn v' k → QOwn v k ∨ w.heap.size ≤ k) → wpList P ops Q rest (a.put o.dst v') w') :
  wpList P ops Q (o :: rest) a w := by
 obtain ⟨hlo, hq⟩ := hq
 rcases hq with ⟨rfl, ao, rfl⟩ | ⟨g, off, cap, cur, rfl, hc0, hh, hsz, hnc, hcm, hcs⟩
 ·obtain rfl : cs = [] := List.eq_nil_of_length_eq_zero (by simpa using hlo)
  exact wpList_append_grows w hg s x t hop e i z 2 bytes h1 h2 h3 h4 h5 h6 (by omega) ao 0 0 [] hs (fun _ => ⟨rfl, rfl⟩) (by simp) (by simp) ad 1 c news hx (by omega) hc h1c (by omega) b1 b2
   (fun v' w' hown hg' => hK v' w' (QRow.of_own hown) (Chg.of_grown hg' (by simp)) (fun k hk => .inr (qown_new hown k hk)))
 ·have hget : ∀ j, j < cap * 2 → w.cell? ⟨g, off + j, none⟩ = cur[off + j]? := fun j _ => cell_of_row w g (off + j) cur e (0, 0) hh
  refine wpList_append_arg w hg s x t hop e i z 2 bytes h1 h2 h3 h4 h5 h6 (by omega) g off n cap cs hs hlo (fun j u hj => ?_) ad 1 c news hx (by omega) hc h1c (fun hr j hj => ?_) b1 b2 (fun hr => ?_) (fun hr v' w' hown hg' => ?_)
  ·have hj' : j < n * 2 := by rw [← hlo]; exact (List.getElem?_eq_some_iff.1 hj).1
   rw [hget j (by omega), hcs j hj']; exact hj
  ·have hj2 : j < 2 := by omega
   refine ⟨?_, by simp [World.frozen?, hh]⟩
   rw [Nat.add_assoc, hget (n * 2 + j) (by omega), Array.getElem?_eq_getElem (by omega)]; rfl
  ·obtain ⟨x0, x1, rfl⟩ : ∃ x0 x1, news = [x0, x1] := by
    match news, hn with
    | [x0, x1], _ => exact ⟨x0, x1, rfl⟩
   have hb : Blk w g cur e := hh
   have hb2 := (hb.set_ (off + n * 2) x0).set_ (off + n * 2 + 1) x1
   refine hK _ _ ⟨by simp; omega, .inr ⟨g, off, cap, _, rfl, hc0, hb2, by simpa using hsz, hr, hcm, fun j hj => ?_⟩⟩ ?_ (fun k hk => .inl ?_)
   ·simp only [Array.getElem?_setIfInBounds, Array.size_setIfInBounds]
    by_cases h0 : j < n * 2
    ·rw [if_neg (by omega), if_neg (by omega), hcs j h0, List.getElem?_append_left (by omega)]
    ·rcases Nat.lt_or_ge j (n * 2 + 1) with h01 | h01
     ·obtain rfl : j = n * 2 := by omega
      rw [if_neg (by omega), if_pos rfl, if_pos (by omega), List.getElem?_append_right (by omega), hlo]
      simp
     ·obtain rfl : j = n * 2 + 1 := by omega
      rw [if_pos (by omega), if_pos (by omega), List.getElem?_append_right (by omega), hlo]
      simp
   ·exact (Chg.setCell (S := fun k => QOwn (.slice (some ⟨g, off, none⟩) n cap) k) (p := ⟨g, off + n * 2, none⟩) _ (.inl ⟨_, _, _, rfl, hc0⟩) _).trans (Chg.setCell (S := fun k => QOwn (.slice (some ⟨g, off, none⟩) n cap) k) (p := ⟨g, off + n * 2 + 1, none⟩) _ (.inl ⟨_, _, _, rfl, hc0⟩) _)
   ·obtain ⟨o', n', c', e', h'⟩ := hk
    cases e'; exact ⟨_, _, _, rfl, hc0⟩
  ·exact hK v' w' (QRow.of_own hown) (Chg.of_grown hg' (by simp)) (fun k hk => .inr (qown_new hown k hk))

def flatP (q : List Plc) : List Value := q.flatMap fun p => [.int .i64 p.st, .string p.tx]
theorem flatP_snoc (q : List Plc) (p : Plc) : flatP (q ++ [p]) = flatP q ++ [.int .i64 p.st, .string p.tx] := by simp [flatP]
theorem flatP_cons (q : List Plc) (p : Plc) : flatP (p :: q) = .int .i64 p.st :: .string p.tx :: flatP q := by simp [flatP]
theorem flatP_length (q : List Plc) : (flatP q).length = q.length * 2 := by
 induction q with
 | nil => rfl
 | cons x q ih => rw [flatP_cons]; simp [ih]; omega

/-- The set and the queue of step. -/
structure StAt (w : World) (b bq : Nat) (ks q : List Plc) (v : Value) : Prop where
 set : SetIs w b OkPlc (ks.map plcV)
 box : Blk w bq #[v] 238
 row : QRow w 165 v q.length (flatP q)
theorem StAt.apart {w : World} {b bq : Nat} {ks q : List Plc} {v : Value} (h : StAt w b bq ks q v) : ∀ k, QOwn v k → k ≠ b ∧ k ≠ bq := by
 intro k hk
 obtain ⟨cur, hb⟩ := h.row.cells hk
 unfold Blk at hb
 refine ⟨fun e => ?_, fun e => ?_⟩
 ·subst e
  obtain ⟨es, cl, hm, _⟩ := h.set
  rw [hb] at hm; cases hm
 ·subst e
  have := h.box
  unfold Blk at this
  rw [hb] at this
  injection this with h1
  injection h1 with _ h2
  exact absurd h2 (by decide)
theorem StAt.chg {S : Nat → Prop} {w w' : World} {b bq : Nat} {ks q : List Plc} {v : Value} (h : StAt w b bq ks q v) (hc : Chg S w w') (hb : ¬ S b) (hq : ¬ S bq) (hv : ∀ k, QOwn v k → ¬ S k) : StAt w' b bq ks q v :=
 ⟨MapIs.chg h.set hc hb, h.box.chg hc hq, h.row.chg hc hv⟩

theorem mem_plcV {ks : List Plc} {p : Plc} : plcV p ∈ ks.map plcV ↔ p ∈ ks := by
 rw [List.mem_map]
 exact ⟨fun ⟨y, hy, e⟩ => plcV_inj e ▸ hy, fun h => ⟨p, h, rfl⟩⟩

/-- What reaching a place turns. -/
def ReachPost (b bq : Nat) (ks q : List Plc) (v : Value) (p : Plc) (w : World) (e : Ending) (w' : World) : Prop :=
 e = .returned (.tuple #[]) ∧ ∃ v', StAt w' b bq (addP ks p) (q ++ newP ks p) v' ∧ Chg (fun k => k = b ∨ k = bq ∨ QOwn v k) w w' ∧ (∀ k, QOwn v' k → QOwn v k ∨ w.heap.size ≤ k)

theorem zero_bool2 (w : World) : (zeroValue 4).run Tryz.prog w = .ok (.bool false) w := by kernel_rfl
theorem info_place : (Tryz.prog.info? 165).map (fun i => (i.zero, i.size, i.bytes)) = some (some (.agg #[.int .i64 0, .string ⟨#[]⟩]), 2, 24) := by kernel_rfl

set_option maxRecDepth 100000 in
set_option maxHeartbeats 2000000 in
theorem reach_any (bt b bq : Nat) (ks q : List Plc) (v : Value) (p : Plc) (w : World) (ht : w.cell? ⟨bt, 0, none⟩ = some (.map (some b))) (h : StAt w b bq ks q v) (hne : b ≠ bq) (hbt : bt ≠ b ∧ bt ≠ bq) (hl : q.length ≤ 1000000000) :
  Calls Tryz.prog 170 #[.agg #[.int .i64 p.st, .string p.tx], .pointer (some ⟨bt, 0, none⟩), .pointer (some ⟨bq, 0, none⟩)] w (ReachPost b bq ks q v p w) := by
 obtain ⟨i0, hi, hz0, hz1, hz2⟩ := info_parts info_place
 obtain ⟨W0, hW0⟩ : ∃ W0 : World, W0 = w.alloc (.cells #[.int .i64 p.st, .string p.tx] 165) := ⟨_, rfl⟩
 have hb0 : Below w.heap.size w W0 := by rw [hW0]; exact (Below.refl _ _).alloc (Nat.le_refl _) _
 have hc0 : Chg (fun k => k = b ∨ k = bq ∨ QOwn v k) w W0 := Chg.of_below _ hb0
 have hst0 : StAt W0 b bq ks q v := h.chg (S := fun _ => False) (Chg.of_below _ hb0) (fun h => h) (fun h => h) (fun _ _ h => h)
 have hk0 : Blk W0 w.heap.size #[.int .i64 p.st, .string p.tx] 165 := by rw [hW0]; exact Blk.new _ _ _
 have t0 : W0.cell? ⟨bt, 0, none⟩ = some (.map (some b)) := (hb0.cell (p := ⟨bt, 0, none⟩) (lt_of_cell ht)).trans ht
 have p0 := hk0.cell 0
 have p1 := hk0.cell 1
 simp only [List.getElem?_toArray, List.getElem?_cons_zero, List.getElem?_cons_succ] at p0 p1
 have HW0 := Lib.hid hW0
 have H0 := Lib.hid (And.intro hc0 (And.intro hst0 hk0))
 clear hW0 hc0 hk0 ht
 by_cases hm : p ∈ ks
 ·have hlk := SetIs.look hst0.set keyPlc Tryz.underlying161 (zero_bool2 W0) (key := plcV p) ⟨p, rfl⟩
  rw [decide_eq_true (mem_plcV.2 hm)] at hlk
  unfold plcV at hlk
  have Hm := Lib.hid hm
  clear hm hst0 h
  go_enter Tryz.func170, Tryz.ntmps170
  go_upto_region 1 with (fail)
  rw [← HW0.out]
  go_wp2_with fail
  refine bodyPost_end (v := .tuple #[]) (by simp [results, Tryz.results170, go_sem]) rfl ?_
  refine ⟨rfl, v, ?_, H0.out.1, fun k hk => .inl hk⟩
  rw [addP, newP, if_pos Hm.out, if_pos Hm.out, List.append_nil]
  exact H0.out.2.1
 ·have hlk := SetIs.look hst0.set keyPlc Tryz.underlying161 (zero_bool2 W0) (key := plcV p) ⟨p, rfl⟩
  rw [decide_eq_false (fun h => hm (mem_plcV.1 h))] at hlk
  obtain ⟨w2, hrun, hs2, hg2, hz2'⟩ := SetIs.put hst0.set keyPlc Tryz.underlying161 (key := plcV p) ⟨p, rfl⟩
  unfold plcV at hlk hrun
  have Hm := Lib.hid hm
  have hc2 : Chg (fun k => k = b) W0 w2 := Chg.of_grown hg2 (fun r hr => by cases hr; exact .inl rfl)
  have hbl := MapIs.lt h.set
  have hap := hst0.apart
  have hbq2 := hst0.box.chg hc2 (Ne.symm hne)
  have q0 := hbq2.cell 0
  have hkp2 := H0.out.2.2.chg hc2 (show w.heap.size ≠ b by omega)
  have p0' := hkp2.cell 0
  have p1' := hkp2.cell 1
  have t2 : w2.cell? ⟨bt, 0, none⟩ = some (.map (some b)) := (heap_cell (hc2.block bt (lt_of_cell t0) hbt.1) 0).trans t0
  simp only [List.getElem?_toArray, List.getElem?_cons_zero, List.getElem?_cons_succ] at p0' p1' q0
  have hrow2 := hst0.row.chg hc2 (fun k hk => (hap k hk).1)
  obtain ⟨W3, hW3⟩ : ∃ W3 : World, W3 = w2.alloc (.cells #[.int .i64 p.st, .string p.tx] 165) := ⟨_, rfl⟩
  have hc3 : Chg (fun _ => False) w2 W3 := by rw [hW3]; exact Chg.alloc _ _ _
  have hrow3 := hrow2.chg hc3 (fun _ _ h => h)
  have hk3 : Blk W3 w2.heap.size #[.int .i64 p.st, .string p.tx] 165 := by rw [hW3]; exact Blk.new _ _ _
  have hcl3 : ∀ j u, [Value.int .i64 p.st, .string p.tx][j]? = some u → W3.cell? ((⟨w2.heap.size, 0, none⟩ : Addr).add j) = some u := fun j u hj => by
   rw [Addr.add_lit, Nat.zero_add, hk3.cell j]; simpa using hj
  have hbq3 := hbq2.chg hc3 (fun h => h)
  have HW3 := Lib.hid hW3
  have hset3 : SetIs W3 b OkPlc ((addP ks p).map plcV) := by
   rw [addP, if_neg hm, List.map_append]
   have := MapIs.chg hs2 hc3 (fun h => h)
   rw [addV, if_neg (fun h => hm (mem_plcV.1 h))] at this
   exact this
  have H3 := Lib.hid (And.intro hset3 (And.intro hbq3 (And.intro hc2 hc3)))
  have Hap := Lib.hid hap
  have Hbq := hst0.box.lt
  have hz02 := hc2.size
  have hz23 := hc3.size
  have hz00 := hb0.size
  have hbql := h.box.lt
  obtain ⟨va, vc, rfl⟩ := hst0.row.slice
  have Hrow3 := Lib.hid (And.intro hrow3 hcl3)
  clear hW3 hs2 hg2 hz2' hc2 hc3 hap hbq2 hbq3 hkp2 hrow2 hset3 hk3 hm hst0 h hcl3 hrow3
  go_enter Tryz.func170, Tryz.ntmps170
  go_upto_region 1 with (fail)
  rw [← HW0.out]
  go_wp2_with ((at_builtin; rw [← HW3.out]; refine wpList_append_q _ rfl _ _ 238 rfl 165 i0 _ 24 Tryz.underlying238 hi hz0 hz1 hz2 rfl _ q.length (flatP q) rfl Hrow3.out.1 ⟨w2.heap.size, 0, none⟩ 1 [.int .i64 p.st, .string p.tx] rfl rfl Hrow3.out.2 (by simp [Value.oneCell']) (by unfold maxLen; omega) (by omega) ?_; intro v' w4 hq4 hc4 hf4; obtain ⟨a4, c4, rfl⟩ := hq4.slice; have hb4 := H3.out.2.1.chg hc4 (fun hk => (Hap.out _ hk).2 rfl); have x4 := hb4.cell 0; have f4 := hb4.frozen 0; have H4 := Lib.hid (And.intro hq4 (And.intro hc4 (And.intro hf4 hb4))); clear hq4 hc4 hf4 hb4))
  refine bodyPost_end (v := .tuple #[]) (by simp [results, Tryz.results170, go_sem]) rfl ?_
  obtain ⟨hq4, hc4, hf4, hb4⟩ := H4.out
  obtain ⟨hset3, hbq3, hc2, hc3⟩ := H3.out
  have hset4 := MapIs.chg hset3 hc4 (fun hk => (Hap.out _ hk).1 rfl)
  refine ⟨rfl, _, ⟨MapIs.setCell hset4 (p := ⟨bq, 0, none⟩) (Ne.symm hne) _, Blk.set_ hb4 0 _, ?_⟩, ?_, fun k hk => ?_⟩
  ·rw [newP, if_neg Hm.out, flatP_snoc, List.length_append]
   refine QRow.chg hq4 (Chg.setCell (S := fun k => k = bq) (p := ⟨bq, 0, none⟩) _ (.inl rfl) _) (fun k hk e => ?_)
   rcases hf4 k hk with h1 | h1
   ·exact (Hap.out k h1).2 e
   ·omega
  ·refine (((H0.out.1.trans (hc2.mono (fun k hk => .inl hk))).trans (hc3.mono (fun k hk => hk.elim))).trans (hc4.mono (fun k hk => .inr (.inr hk)))).trans (Chg.setCell (S := fun k => k = b ∨ k = bq ∨ QOwn _ k) (p := ⟨bq, 0, none⟩) _ (.inl (.inr (.inl rfl))) _)
  ·rcases hf4 k hk with h1 | h1
   ·exact .inl h1
   ·exact .inr (by omega)
end Go.Proofs.YthachfkcgdfdfaaGreatDoor
