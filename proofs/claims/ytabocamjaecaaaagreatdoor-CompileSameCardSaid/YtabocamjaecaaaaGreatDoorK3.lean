/- Walk: the arcs of a state that read a symbol, as an iterator (machine.arcs). -/
import Derived.Test.YtabocamjaecaaaaGreatDoorGK
import Derived.RangeFuncNested
import Derived.RangeFuncBound
import Derived.RangeFuncCalls
import Derived.RangeFuncLeaves
import Derived.Shelf.Abstract
import Derived.Shelf.RegionOpen
import Derived.OwnWalkIn
import Derived.TacticsInMore
import Derived.LoopNIn
import Derived.LoopIn
import Derived.BigQuiet
import Derived.Deep.QuietTactic
namespace Go.Proofs.YtabocamjaecaaaaGreatDoor
open Go.RowKit Classical
open Go.Shelf
attribute [local go_sem] Oper.semAt_some

theorem heap_cell {W W' : World} {a : Nat} (h : W'.heap[a]? = W.heap[a]?) (o : Nat) : W'.cell? ⟨a, o, none⟩ = W.cell? ⟨a, o, none⟩ := by
 simp only [World.cell?, h]
theorem lt_of_cell {W : World} {a o : Nat} {v : Value} (h : W.cell? ⟨a, o, none⟩ = some v) : a < W.heap.size := by
 unfold World.cell? at h
 cases ho : W.heap[a]? with
 | none => simp [ho] at h
 | some x => exact (Array.getElem?_eq_some_iff.1 ho).1

/-- What the iterator reads: its machine, state and symbol; the arcs. -/
structure IterAt (W : World) (Bm Bs Bi : Nat) (l : List Arc) (s c : Int) (aa : Option Addr) (ac : Nat) : Prop where
 m : W.cell? ⟨Bm, 3, none⟩ = some (.slice aa l.length ac)
 s : W.cell? ⟨Bs, 0, none⟩ = some (.int .i64 s)
 c : W.cell? ⟨Bi, 0, none⟩ = some (.int .i64 c)
 row : RowAt W W.heap.size aa (flat l)
/-- The blocks that it reads lie as they lay. -/
structure Keep4 (Bm Bs Bi : Nat) (l : List Arc) (aa : Option Addr) (W W' : World) : Prop where
 m : W'.heap[Bm]? = W.heap[Bm]?
 s : W'.heap[Bs]? = W.heap[Bs]?
 c : W'.heap[Bi]? = W.heap[Bi]?
 row : 0 < l.length → ∀ p, aa = some p → W'.heap[p.block]? = W.heap[p.block]?
section
variable {Bm Bs Bi : Nat} {l : List Arc} {aa : Option Addr} {W W' W'' : World} {s c : Int} {ac : Nat}
theorem Keep4.refl : Keep4 Bm Bs Bi l aa W W := ⟨rfl, rfl, rfl, fun _ _ _ => rfl⟩
theorem Keep4.trans (h : Keep4 Bm Bs Bi l aa W W') (k : Keep4 Bm Bs Bi l aa W' W'') : Keep4 Bm Bs Bi l aa W W'' :=
 ⟨k.m.trans h.m, k.s.trans h.s, k.c.trans h.c, fun h0 p hp => (k.row h0 p hp).trans (h.row h0 p hp)⟩
theorem Keep4.drewN (h : Keep4 Bm Bs Bi l aa W W') (n : Nat) : Keep4 Bm Bs Bi l aa W (W'.drewN n) := ⟨h.m, h.s, h.c, h.row⟩
theorem IterAt.keep (h : IterAt W Bm Bs Bi l s c aa ac) (k : Keep4 Bm Bs Bi l aa W W') : IterAt W' Bm Bs Bi l s c aa ac :=
 ⟨(heap_cell k.m 3).trans h.m, (heap_cell k.s 0).trans h.s, (heap_cell k.c 0).trans h.c, fun hn => by
  obtain ⟨b, off, e, hb, hc⟩ := h.row hn
  have hl : 0 < l.length := by rw [flat_length] at hn; omega
  have he := k.row hl _ e
  have hc' : ∀ i x, (flat l)[i]? = some x → W'.cell? ⟨b, off + i, none⟩ = some x := fun i x hx => (heap_cell he (off + i)).trans (hc i x hx)
  exact ⟨b, off, e, lt_of_cell (hc' 0 (flat l)[0] (List.getElem?_eq_getElem hn)), hc'⟩⟩
theorem IterAt.below (h : IterAt W Bm Bs Bi l s c aa ac) (hb : Below W.heap.size W W') : Keep4 Bm Bs Bi l aa W W' :=
 ⟨hb.block _ (lt_of_cell h.m), hb.block _ (lt_of_cell h.s), hb.block _ (lt_of_cell h.c), fun h0 p hp => by
  obtain ⟨b, off, e, hb', _⟩ := h.row (by rw [flat_length]; omega)
  rw [hp] at e; cases e
  exact hb.block _ hb'⟩
end

set_option maxRecDepth 100000 in
set_option maxHeartbeats 4000000 in
theorem arcs1_in (n : Nat) (hn : 1 ≤ n) (y Bm Bs Bi : Nat) (l : List Arc) (s c : Int) (aa : Option Addr) (ac : Nat) (hl : l.length ≤ 20000) (hsm : ∀ a ∈ l, Small a) (hout : ∀ a ∈ l, 0 ≤ a.out) (hinc : Increasing l) (hT : Small (tgt s c))
  (J Jx : List Arc → World → Prop) (Kp : World → World → Prop) (hJ : ∀ p W W', J p W → Below W.heap.size W W' → J p W') (hKp : ∀ W W', Kp W W' → Keep4 Bm Bs Bi l aa W W')
  (hY : ∀ pre x W, J pre W → pre.length < (runA l s c).length → x ∈ runA l s c → YieldAt Fence.wide (n - 1) Tryz.prog y #[.agg #[.int .i64 x.frm, .int .i64 x.inp, .int .i64 x.out, .int .i64 x.to]] W fun e W' =>
   (e = .returned (.bool true) ∧ J (pre ++ [x]) W' ∧ Kp W W') ∨ (e = .returned (.bool false) ∧ Jx (pre ++ [x]) W'))
  (W : World) (hI : IterAt W Bm Bs Bi l s c aa ac) (h0 : J [] W) :
  CallsIn Fence.wide n Tryz.prog 77 #[.func (.yield y) #[] #[], .pointer (some ⟨Bm, 0, none⟩), .pointer (some ⟨Bs, 0, none⟩), .pointer (some ⟨Bi, 0, none⟩)] W fun e W' => (∃ v, e = .returned v) ∧
   ((∃ ys, ys = runA l s c ∧ J ys W') ∨ (∃ pre, pre <+: runA l s c ∧ Jx pre W')) := by
 refine callsIn_of_wp Tryz.func77 rfl trivial ?_ rfl
 simp only [Tryz.ntmps77, List.size_toArray, List.length_cons, List.length_nil, Nat.reduceAdd, Nat.reduceSub, Array.replicate_succ, Array.replicate_zero, List.push_toArray, List.append_toArray, List.nil_append, List.cons_append]
 obtain ⟨SQ, hSQ⟩ : ∃ SQ, runA l s c = SQ := ⟨_, rfl⟩
 have HSQ := Lib.hid hSQ
 rw [hSQ] at hY ⊢
 clear hSQ
 have HI := Lib.hid hI
 have HQ := Lib.hid (bsf_any l (tgt s c) aa ac hl hsm hT hinc W hI.row)
 have HInc := Lib.hid (And.intro hinc (And.intro hsm hout))
 have H0 := Lib.hid h0
 have m3 := hI.m
 have s0 := hI.s
 have c0 := hI.c
 clear hI hinc hsm hout h0
 refine wpIn_wide.2 ?_
 go_wp2_with (go_at_call 78; refine HQ.out.mono ?_; rintro e w1 ⟨lo, f, rfl, hlo, hlt, hge, hb1⟩)
 have hk1 := HI.out.below hb1
 have hJ1 := hJ _ _ _ H0.out hb1
 have HL := Lib.hid (And.intro hlt hge)
 have HK1 := Lib.hid hk1
 have HJ1 := Lib.hid hJ1
 clear hlt hge hk1 hJ1 hb1 m3 s0 c0
 refine (wpIn_wide (n := n)).1 ?_
 gi_loopw [5] (fun i wr => ∃ (k : Nat) (pre : List Arc), i = .int .i64 k ∧ lo ≤ k ∧ k ≤ l.length ∧ SQ = pre ++ runA (l.drop k) s c ∧ J pre wr ∧ Keep4 Bm Bs Bi l aa W wr) (fun i _ => l.length - (intOf i).toNat)
 case atStart => exact ⟨lo, [], rfl, Nat.le_refl _, hlo, by rw [← HSQ.out]; exact runA_drop lo (fun t ht a => HL.out.1 t a ht) HInc.out.2.2, HJ1.out, HK1.out⟩
 case round =>
  obtain ⟨k, pre, rfl, hlk, hkl, hseq, hJs, hkw⟩ := hrel
  have Hseq := Lib.hid hseq
  have HJs := Lib.hid hJs
  have hIr := HI.out.keep hkw
  have m3 := hIr.m
  have s0 := hIr.s
  have c0 := hIr.c
  have Hkw := Lib.hid hkw
  clear hseq hJs hkw
  by_cases hk : k < l.length
  ·obtain ⟨b, off, rfl, hb, hc⟩ := hIr.row.arcs (by omega)
   obtain ⟨x0, x1, x2, x3⟩ := hc k hk
   obtain ⟨x, hxe⟩ : ∃ x, x = l[k] := ⟨_, rfl⟩
   rw [← hxe] at x0 x1 x2 x3
   have Hxe := Lib.hid (show l[k]? = some x by rw [hxe]; exact List.getElem?_eq_getElem hk)
   clear hxe hc hIr
   have hd : decide ((k : Int) < (l.length : Int)) = true := decide_eq_true (by omega)
   have hd' : decide (k < l.length) = true := decide_eq_true hk
   by_cases hm : x.frm = s ∧ x.inp = c
   ·have hsq : SQ = pre ++ x :: runA (l.drop (k + 1)) s c := by rw [Hseq.out, runA_next k x Hxe.out hm]
    have d1 : (x.frm == s) = true := by simpa using hm.1
    have d2 : (x.inp == c) = true := by simpa using hm.2
    have Hsq := Lib.hid hsq
    clear hm hsq
    gi_wp2
    refine wpIn_wide.2 ?_
    go_quiet (fail)
    obtain ⟨fn, tmps, assign, body, hy, hR⟩ := hY pre x (wr.drewN nq) (hJ _ _ _ HJs.out (below_drewN (Below.refl _ _) _)) (by rw [Hsq.out]; simp) (by rw [Hsq.out]; simp)
    gi_wp2
    refine hR.mono ?_
    rintro e W3 (⟨rfl, hJ3, hk3⟩ | ⟨rfl, hJx3⟩)
    ·gi_wp2
     exact ⟨⟨k + 1, pre ++ [x], by go_num, by omega, by omega, by rw [Hsq.out]; simp, hJ3, (Hkw.out.drewN nq).trans (hKp _ _ hk3)⟩, by simp [intOf]; omega⟩
    ·gi_wp2
     refine bodyPost_ret (results_none rfl _ _ _) rfl ?_
     exact ⟨⟨_, rfl⟩, .inr ⟨_, by rw [Hsq.out]; exact ⟨runA (l.drop (k + 1)) s c, by simp⟩, hJx3⟩⟩
   ·have hsq : SQ = pre := by rw [Hseq.out, runA_stop HInc.out.1 k x Hxe.out (HL.out.2 k x hlk Hxe.out) HInc.out.2.2 hm, List.append_nil]
    have Hsq := Lib.hid hsq
    clear hsq
    by_cases hf : x.frm = s
    ·have d1 : (x.frm == s) = true := by simpa using hf
     have d2 : (x.inp == c) = false := by rw [beq_eq_false_iff_ne]; exact fun e => hm ⟨hf, e⟩
     clear hm hf
     gi_wp2
     refine wpIn_wide.2 ?_
     go_quiet (fail)
     gi_wp2
     go_end0
     exact ⟨⟨_, rfl⟩, .inl ⟨SQ, rfl, by rw [Hsq.out]; exact hJ _ _ _ HJs.out (below_drewN (Below.refl _ _) _)⟩⟩
    ·have d1 : (x.frm == s) = false := by rw [beq_eq_false_iff_ne]; exact hf
     clear hm hf
     gi_wp2
     refine wpIn_wide.2 ?_
     go_quiet (fail)
     gi_wp2
     go_end0
     exact ⟨⟨_, rfl⟩, .inl ⟨SQ, rfl, by rw [Hsq.out]; exact hJ _ _ _ HJs.out (below_drewN (Below.refl _ _) _)⟩⟩
  ·obtain rfl : k = l.length := by omega
   have hd : decide ((l.length : Int) < (l.length : Int)) = false := decide_eq_false (by omega)
   have hsq : SQ = pre := by rw [Hseq.out, List.drop_of_length_le (Nat.le_refl _), runA_nil, List.append_nil]
   have Hsq := Lib.hid hsq
   clear hsq hIr
   gi_wp2
   refine wpIn_wide.2 ?_
   go_quiet (fail)
   gi_wp2
   go_end0
   exact ⟨⟨_, rfl⟩, .inl ⟨SQ, rfl, by rw [Hsq.out]; exact hJ _ _ _ HJs.out (below_drewN (Below.refl _ _) _)⟩⟩

/-- The iterator's contract, over the arcs that it yields. -/
theorem arcs_seq (n : Nat) (hn : 1 ≤ n) (Bm Bs Bi : Nat) (l : List Arc) (s c : Int) (aa : Option Addr) (ac : Nat) (hl : l.length ≤ 20000) (hsm : ∀ a ∈ l, Small a) (hout : ∀ a ∈ l, 0 ≤ a.out) (hinc : Increasing l) (hT : Small (tgt s c))
  (W : World) (hI : IterAt W Bm Bs Bi l s c aa ac) :
  SeqStopsK Fence.wide n Tryz.prog 77 #[.pointer (some ⟨Bm, 0, none⟩), .pointer (some ⟨Bs, 0, none⟩), .pointer (some ⟨Bi, 0, none⟩)] (fun x : {x // x ∈ runA l s c} => #[.agg #[.int .i64 x.1.frm, .int .i64 x.1.inp, .int .i64 x.1.out, .int .i64 x.1.to]])
   (Keep4 Bm Bs Bi l aa) (fun ys => ys.map (·.1) = runA l s c) (fun _ => True) (runA l s c).length W := by
 intro y J Jx W1 hW hJ hJx hY h0
 refine (arcs1_in n hn y Bm Bs Bi l s c aa ac hl hsm hout hinc hT (fun p W => ∃ q : List {x // x ∈ runA l s c}, q.map (·.1) = p ∧ J q W) (fun p W => ∃ q : List {x // x ∈ runA l s c}, q.map (·.1) = p ∧ Jx q W) (Keep4 Bm Bs Bi l aa)
  (fun p X Y h hb => ?_) (fun _ _ h => h) ?_ W1 (hI.keep (hI.below hW)) ⟨[], rfl, h0⟩).mono ?_
 ·obtain ⟨q, hq, h⟩ := h
  exact ⟨q, hq, hJ q X Y none h (grown_of_below hb none) (by simp)⟩
 ·rintro pre x X ⟨q, rfl, h⟩ hlen hx
  obtain ⟨fn, tmps, assign, body, hy, hR⟩ := hY q ⟨x, hx⟩ X h (by simpa using hlen)
  refine ⟨fn, tmps, assign, body, hy, hR.mono ?_⟩
  rintro e X' (⟨he, hj, hk⟩ | ⟨he, hj⟩)
  ·exact .inl ⟨he, ⟨q ++ [⟨x, hx⟩], by simp, hj⟩, hk⟩
  ·exact .inr ⟨he, ⟨q ++ [⟨x, hx⟩], by simp, hj⟩⟩
 ·rintro e X ⟨hv, (⟨ys, rfl, q, hq, hj⟩ | ⟨pre, _, q, rfl, hj⟩)⟩
  ·exact ⟨hv, .inl ⟨q, hq, hj⟩⟩
  ·exact ⟨hv, .inr ⟨q, trivial, hj⟩⟩

theorem arcs_any (s c : Int) (st start : Int) (f1 f2 : Value) (w : World) :
  Calls Tryz.prog 48 #[.agg #[.int .i64 st, .int .i64 start, f1, f2], .int .i64 s, .int .i64 c] w fun e w' =>
   e = .returned (.func (.func 77) #[] #[.pointer (some ⟨w.heap.size, 0, none⟩), .pointer (some ⟨w.heap.size + 1, 0, none⟩), .pointer (some ⟨w.heap.size + 2, 0, none⟩)]) ∧
   w' = ((w.alloc (.cells #[.int .i64 st, .int .i64 start, f1, f2] 32)).alloc (.cells #[.int .i64 s] 3)).alloc (.cells #[.int .i64 c] 3) := by
 go_enter Tryz.func48, Tryz.ntmps48
 go_wp2
 go_ret
 exact ⟨rfl, rfl⟩
end Go.Proofs.YtabocamjaecaaaaGreatDoor
