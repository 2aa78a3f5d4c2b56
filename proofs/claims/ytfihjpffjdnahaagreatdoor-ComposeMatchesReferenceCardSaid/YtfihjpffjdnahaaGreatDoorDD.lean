/- D4 · RF · D5a -/
import Derived.Test.YtfihjpffjdnahaaGreatDoorPB
import Derived.Test.YtfihjpffjdnahaaGreatDoorT1
import Derived.Test.YtfihjpffjdnahaaGreatDoorGT
import Derived.Maps.AppendAt
import Derived.Deep.CutBlock
import Derived.RangeFuncNested
import Derived.RangeFuncBound
import Derived.Test.YtfihjpffjdnahaaGreatDoorDB
import Derived.Test.YtfihjpffjdnahaaGreatDoorDA
import Derived.Test.YtfihjpffjdnahaaGreatDoorK8
import Derived.Test.YtfihjpffjdnahaaGreatDoorK9
import Derived.Test.YtfihjpffjdnahaaGreatDoorT3
/- Walk: numbering the pairs that are found (a function value of compose.Compose). -/
namespace Go.Proofs.YtfihjpffjdnahaaGreatDoor
open Go.RowKit Classical

def prV (x : Int × Int) : Value := .agg #[.int .i64 x.1, .int .i64 x.2]
def OkPr (v : Value) : Prop := ∃ x, v = prV x
theorem prV_inj {x y : Int × Int} (h : prV x = prV y) : x = y := by
 cases x; cases y; simpa [prV] using h
theorem prV_eq {x y : Int × Int} : prV x = prV y ↔ x = y := ⟨prV_inj, fun h => by rw [h]⟩
theorem eql_pr (x y : Int × Int) (w : World) : (binOp .eql 50 (.agg #[.int .i64 x.1, .int .i64 x.2]) (.agg #[.int .i64 y.1, .int .i64 y.2])).run Tryz.prog w = .ok (.bool (decide (x = y))) w := by
 have hS : Tryz.prog.underlying 50 = some (.struct (Tryz.prog.fieldsOf 50)) := by kernel_rfl
 have hp : Tryz.prog.stoodInHeld 50 = false := by kernel_rfl
 rw [run_eql_struct, show (10000 : Nat) = 9999 + 1 from rfl, run_equalIn_agg w 9999 50 _ _ hS hp]
 simp only [Program.fieldsOf, Tryz.underlying50]
 go_simp
 obtain ⟨a, b⟩ := x
 obtain ⟨a', b'⟩ := y
 simp only [Prod.mk.injEq]
 by_cases h1 : a = a' <;> by_cases h2 : b = b' <;> simp [h1, h2]

set_option maxRecDepth 100000 in
theorem keyPr : KeyT Tryz.prog 50 OkPr := by
 have hS : Tryz.prog.underlying 50 = some (.struct (Tryz.prog.fieldsOf 50)) := by kernel_rfl
 refine keyT_struct hS ?_ ?_ ?_ ?_
 ·rintro _ _ ⟨x, rfl⟩ ⟨y, rfl⟩; rfl
 ·rintro em w _ ⟨x, rfl⟩
  unfold prV
  rw [show (10000 : Nat) = 9998 + 1 + 1 from rfl, Instr.checkKey]
  simp only [Sem.run_bind, run_underlying Tryz.underlying50, Result.andThen_ok]
  rw [← Array.forIn_toList]
  go_simp
  simp only [check_int, Result.andThen_ok]
 ·rintro _ ⟨x, rfl⟩
  have hb := fun a : ByteArray => (MapKept.bytes_beq a a).2 rfl
  simp [prV, Instr.sameBits]
 ·rintro w _ _ ⟨x, rfl⟩ ⟨y, rfl⟩
  have := equal_of_eql (eql_pr x y w)
  rw [show (Op.equal 50 (prV x) (prV y)).run Tryz.prog w = .ok (decide (x = y)) w from this]
  congr 1
  rw [decide_eq_decide, prV_eq]

/-- The pairs with their numbers. -/
def numEs (l : List (Int × Int)) : List (Value × Value) := (List.range l.length).map (fun i : Nat => (prV ((l[i]?).getD (0, 0)), Value.int .i64 (i : Int)))
theorem mem_numEs {l : List (Int × Int)} {p : Value × Value} : p ∈ numEs l ↔ ∃ (i : Nat) (x : Int × Int), l[i]? = some x ∧ p = (prV x, .int .i64 (i : Int)) := by
 unfold numEs
 rw [List.mem_map]
 constructor
 ·rintro ⟨i, hi, rfl⟩
  have := List.mem_range.1 hi
  exact ⟨i, l[i], List.getElem?_eq_getElem this, by rw [List.getElem?_eq_getElem this]; rfl⟩
 ·rintro ⟨i, x, h, rfl⟩
  exact ⟨i, List.mem_range.2 (List.getElem?_eq_some_iff.1 h).1, by rw [h]; rfl⟩
theorem numEs_snoc (l : List (Int × Int)) (x : Int × Int) : numEs (l ++ [x]) = numEs l ++ [(prV x, .int .i64 (l.length : Int))] := by
 unfold numEs
 rw [List.length_append, List.length_cons, List.length_nil, List.range_succ, List.map_append]
 congr 1
 ·refine List.map_congr_left (fun i hi => ?_)
  rw [List.getElem?_append_left (List.mem_range.1 hi)]
 ·simp

/-- The numbers and the order of the pairs that were found. -/
structure NumAt (w : World) (Bn Bo bnum base : Nat) (ord : List (Int × Int)) (ov : Value) : Prop where
 bn : Blk w Bn #[.map (some bnum)] 47
 bo : Blk w Bo #[ov] 48
 isMap : MapIs w bnum OkPr (numEs ord)
 row : w.ownsRow base 50 2 ov ord.length (pairsV ord)
theorem NumAt.below {w w' : World} {Bn Bo bnum base : Nat} {ord : List (Int × Int)} {ov : Value} (h : NumAt w Bn Bo bnum base ord ov) (hb : Below w.heap.size w w') : NumAt w' Bn Bo bnum base ord ov :=
 ⟨h.bn.below hb h.bn.lt, h.bo.below hb h.bo.lt, h.isMap.below hb h.isMap.lt, own_below h.row hb⟩
theorem zero_int2 (w : World) : (zeroValue 3).run Tryz.prog w = .ok (.int .i64 0) w := by kernel_rfl
theorem info_pr : (Tryz.prog.info? 50).map (fun i => (i.zero, i.size, i.bytes)) = some (some (.agg #[.int .i64 0, .int .i64 0]), 2, 16) := by kernel_rfl
theorem pairsV_snoc' (l : List (Int × Int)) (p : Int × Int) : pairsV (l ++ [p]) = pairsV l ++ [.int .i64 p.1, .int .i64 p.2] := by
 simp [pairsV]

def NumPost (Bn Bo bnum base : Nat) (ord : List (Int × Int)) (ov : Value) (x : Int × Int) (w : World) (e : Ending) (w' : World) : Prop :=
 e = .returned (.int .i64 (((addO ord x).idxOf x : Nat) : Int)) ∧ ∃ ov', NumAt w' Bn Bo bnum base (addO ord x) ov' ∧ (∀ g, ov'.ownBlock = some g → ov.ownBlock = some g ∨ w.heap.size ≤ g) ∧ Chg (fun k => k = bnum ∨ k = Bo ∨ ov.ownBlock = some k) w w'

set_option maxRecDepth 100000 in
set_option maxHeartbeats 4000000 in
theorem number_any (Bn Bo bnum base : Nat) (ord : List (Int × Int)) (ov : Value) (x : Int × Int) (w : World) (hl : ord.length ≤ 1000000000000) (hbase : base ≤ w.heap.size) (h : NumAt w Bn Bo bnum base ord ov) :
  Calls Tryz.prog 20 #[.agg #[.int .i64 x.1, .int .i64 x.2], .pointer (some ⟨Bn, 0, none⟩), .pointer (some ⟨Bo, 0, none⟩)] w (NumPost Bn Bo bnum base ord ov x w) := by
 obtain ⟨W0, hW0⟩ : ∃ W0 : World, W0 = w.alloc (.cells #[.int .i64 x.1, .int .i64 x.2] 50) := ⟨_, rfl⟩
 have hb0 : Below w.heap.size w W0 := by rw [hW0]; exact (Below.refl _ _).alloc (Nat.le_refl _) _
 have hx0 : Blk W0 w.heap.size #[.int .i64 x.1, .int .i64 x.2] 50 := by rw [hW0]; exact Blk.new _ _ _
 have h0 := h.below hb0
 have H0 := Lib.hid (And.intro hW0 (And.intro hb0 (And.intro hx0 (And.intro h h0))))
 have n0 : W0.cell? ⟨Bn, 0, none⟩ = some (.map (some bnum)) := h0.bn.cell 0
 have o0 : W0.cell? ⟨Bo, 0, none⟩ = some ov := h0.bo.cell 0
 have x0 : W0.cell? ⟨w.heap.size, 0, none⟩ = some (.int .i64 x.1) := hx0.cell 0
 have x1 : W0.cell? ⟨w.heap.size, 1, none⟩ = some (.int .i64 x.2) := hx0.cell 1
 clear hW0 hb0 hx0
 by_cases hm : x ∈ ord
 ·have hin : (prV x, Value.int .i64 ((ord.idxOf x : Nat) : Int)) ∈ numEs ord := mem_numEs.2 ⟨_, x, idx_get hm, rfl⟩
  have hlk := MapIs.look_some h0.isMap keyPr Tryz.underlying47 hin true
  rw [if_pos rfl] at hlk
  unfold prV at hlk
  have hadd : addO ord x = ord := by unfold addO; rw [if_pos hm]
  have Hadd := Lib.hid hadd
  clear h h0 hm hin hadd
  go_enter Tryz.func20, Tryz.ntmps20
  go_upto_region 1 with (fail)
  rw [← H0.out.1]
  go_wp2_with fail
  go_ret
  refine ⟨by rw [Hadd.out]; rfl, ov, ?_, fun g e => .inl e, Chg.of_below _ H0.out.2.1⟩
  rw [Hadd.out]; exact H0.out.2.2.2.2
 ·have hno : ∀ p ∈ numEs ord, p.1 ≠ prV x := fun p hp e => by
   obtain ⟨i, y, h1, rfl⟩ := mem_numEs.1 hp
   have := prV_inj e
   subst this
   exact hm (List.mem_of_getElem? h1)
  have hlk := MapIs.look_none h0.isMap keyPr Tryz.underlying47 (zero_int2 W0) (key := prV x) ⟨x, rfl⟩ hno true
  rw [if_pos rfl] at hlk
  obtain ⟨W1, hrun, hm1, hg1, hz1⟩ := MapIs.put_new h0.isMap keyPr Tryz.underlying47 (key := prV x) ⟨x, rfl⟩ hno (.int .i64 (ord.length : Int))
  unfold prV at hlk hrun
  have hadd : addO ord x = ord ++ [x] := by unfold addO; rw [if_neg hm]
  have Hadd := Lib.hid hadd
  have hx1 : Blk W1 w.heap.size #[.int .i64 x.1, .int .i64 x.2] 50 := H0.out.2.2.1.grown hg1 (fun e => by injection e with e; have := h.isMap.lt; omega)
  have hbn1 := h0.bn.grown hg1 (fun e => h0.bn.ne_mapB h0.isMap (by injection e))
  have hbo1 := h0.bo.grown hg1 (fun e => h0.bo.ne_mapB h0.isMap (by injection e))
  have hrow1 : W1.ownsRow base 50 2 ov ord.length (pairsV ord) := h0.row.kept hg1 (.inr (own_ne_mapB h0.row h0.isMap))
  rw [← numEs_snoc] at hm1
  have c0 : W1.cell? ⟨Bo, 0, none⟩ = some ov := hbo1.cell 0
  have y0 : W1.cell? ⟨w.heap.size, 0, none⟩ = some (.int .i64 x.1) := hx1.cell 0
  have y1 : W1.cell? ⟨w.heap.size, 1, none⟩ = some (.int .i64 x.2) := hx1.cell 1
  have H1 := Lib.hid (And.intro hbn1 (And.intro hbo1 (And.intro hrow1 (And.intro hm1 (And.intro hg1 hz1)))))
  obtain ⟨oa, oc, rfl, -, -⟩ := RowAt.of_own hrow1
  obtain ⟨i0, hi, hz0, hz1', hz2⟩ := info_parts info_pr
  have Hm := Lib.hid hm
  clear h h0 hm hno hadd hx1 hbn1 hbo1 hrow1 hm1 hg1 hz1
  go_enter Tryz.func20, Tryz.ntmps20
  go_upto_region 1 with (fail)
  rw [← H0.out.1]
  go_wp2_with (at_builtin; refine wpList_append_own_at _ rfl _ _ 48 rfl base 50 i0 _ 2 16 Tryz.underlying48 hi hz0 hz1' hz2 rfl (by decide) _ _ _ rfl (H1.out.2.2.1.alloc _) ⟨W1.heap.size, 0, none⟩ 1 1 [.int .i64 x.1, .int .i64 x.2] rfl rfl (by exact cells_new _ _ _) (by simp [Value.oneCell']) (by unfold maxLen; omega) (by omega) (by have := H0.out.2.1.size; have := H1.out.2.2.2.2.2; simp; omega) ?_)
  intro v' w2 hown2 hgrow2 _ hat2
  obtain ⟨X, hX⟩ : ∃ X : World, X = W1.alloc (.cells #[.int .i64 x.1, .int .i64 x.2] 50) := ⟨_, rfl⟩
  rw [← hX] at hgrow2
  have hb12 : Below W1.heap.size W1 X := by rw [hX]; exact (Below.refl _ _).alloc (Nat.le_refl _) _
  have hrX := own_below H1.out.2.2.1 hb12
  have hne : ∀ cs t b, t ≠ 50 → Blk W1 b cs t → Blk w2 b cs t := fun cs t b ht hb => (hb.below hb12 hb.lt).grown hgrow2 (fun e => (hb.below hb12 hb.lt).own_ne hrX (fun e => ht e.symm) e.symm)
  have hbo2 := hne _ _ _ (by decide) H1.out.2.1
  have hbn2 := hne _ _ _ (by decide) H1.out.1
  have hm2 : MapIs w2 bnum OkPr (numEs (ord ++ [x])) := (H1.out.2.2.2.1.below hb12 H1.out.2.2.2.1.lt).grown hgrow2 (fun e => own_ne_mapB hrX (H1.out.2.2.2.1.below hb12 H1.out.2.2.2.1.lt) e.symm)
  have c2 : w2.cell? ⟨Bo, 0, none⟩ = some (.slice oa ord.length oc) := hbo2.cell 0
  have f2 := hbo2.frozen 0
  have hszX : X.heap.size = W1.heap.size + 1 := by rw [hX]; simp
  have hat3 : ∀ g, v'.ownBlock = some g → (Value.slice oa ord.length oc).ownBlock = some g ∨ w.heap.size ≤ g := fun g e => by
   rcases hat2 with h | h
   ·left; rw [← h]; exact e
   ·right
    rw [h] at e
    have h3 := H0.out.2.1.size
    have h4 := H1.out.2.2.2.2.2
    injection e with e
    omega
  have H2 := Lib.hid (And.intro hbo2 (And.intro hbn2 (And.intro hm2 (And.intro hown2 (And.intro hgrow2 (And.intro hb12 (And.intro hszX hat3)))))))
  obtain ⟨va, vc, rfl, -, -⟩ := RowAt.of_own hown2
  clear hb12 hne hbo2 hbn2 hm2 hown2 hgrow2 hat2 hat3 hszX hX hrX
  go_wp2_with fail
  go_ret
  have hidx : (ord ++ [x]).idxOf x = ord.length := by
   rw [List.idxOf_append, if_neg Hm.out]
   simp
  have hboS : Bo ≠ Bn := fun e => by
   have h1 := H2.out.1
   rw [e] at h1
   unfold Blk at h1
   rw [show w2.heap[Bn]? = _ from H2.out.2.1] at h1
   cases h1
  refine ⟨by rw [Hadd.out, hidx]; rfl, .slice va (ord.length + 1) vc, ⟨?_, ?_, ?_, ?_⟩, H2.out.2.2.2.2.2.2.2, ?_⟩
  ·exact H2.out.2.1.far (p := ⟨Bo, 0, none⟩) (fun e => hboS e.symm) _
  ·have := H2.out.1.set_ 0 (.slice va (ord.length + 1) vc)
   simpa using this
  ·rw [Hadd.out]
   exact H2.out.2.2.1.setCell (p := ⟨Bo, 0, none⟩) (H2.out.1.ne_mapB H2.out.2.2.1) _
  ·rw [Hadd.out, pairsV_snoc', List.length_append]
   exact own_setCell H2.out.2.2.2.1 (p := ⟨Bo, 0, none⟩) (H2.out.1.own_ne H2.out.2.2.2.1 (by decide)) _
  ·refine Chg.trans (w' := w2) ?_ (Chg.setCell (p := ⟨Bo, 0, none⟩) _ (.inl (.inr (.inl rfl))) _)
   have h1 := Chg.of_below (fun k => k = bnum ∨ k = Bo ∨ (Value.slice oa ord.length oc).ownBlock = some k) H0.out.2.1
   have h2 := h1.trans (Chg.of_grown H1.out.2.2.2.2.1 (fun r hr => by cases hr; exact .inl (.inl rfl)))
   have h3 := h2.trans (Chg.of_below _ H2.out.2.2.2.2.2.1)
   exact h3.trans (Chg.of_grown H2.out.2.2.2.2.1 (fun r hr => .inl (.inr (.inr hr))))
end Go.Proofs.YtfihjpffjdnahaaGreatDoor

/- A range over a function whose rounds all go on: what the iterator reads must be kept over a whole round, not over its two halves (the loop's variables are blocks that the body writes). -/
namespace Go.Proofs.YtfihjpffjdnahaaGreatDoor
open Go.RowKit

theorem wpIn_range_rounds {F : Fence} {n : Nat} {P : Program} {α : Type} {g : Operand} {ps : Array Tmp} {assign body : Code} {Q : Exit → Act → World → Prop} {a : Act} {w : World}
  (hro : F.round = none) (h1 : 1 ≤ n) {gf : Nat} {lb : Array Value} (hg : a.eval g = .func (.func gf) #[] lb) (hFg : F.fn gf) (eg : ∀ args w, (callFunc gf args).run P w = .ok (.enter gf args) w)
  {encs : α → Array Value} {Kp : World → World → Prop} {S Sp : List α → Prop} {N : Nat} {w0 : World} (hseq : SeqStopsK F (n - 1) P gf lb encs Kp S Sp N w0)
  (hKt : ∀ {A B C : World}, Kp A B → Kp B C → Kp A C) (hKb : ∀ (W : World) (l : Nat) (o o' : Obj), w.heap.size ≤ l → W.heap[l]? = some o → o.isCells = false → Kp W (W.putObj l o')) (hb0 : Below w0.heap.size w0 w) (hps : ∀ x, (encs x).size = ps.size)
  (I : List α → World → Prop) (hI : OwnFrom w.heap.size I) (h0 : I [] w) (Ax : World → α → Act → World → Prop) (hAx : ∀ W0 x a', OwnFrom w.heap.size (fun (_ : Unit) W => Ax W0 x a' W))
  (hassign : ∀ (l : Nat) (pre : List α) (x : α) (W : World) (K : Act → World → Prop), I pre W → (∀ a' W', KeepsFrom w.heap.size W W' → I pre W' → Ax W x a' W' → K a' W') →
   assign.wpIn (F.inRound l) (n - 1 - 1) P (Exit.then K (fun _ _ _ => False)) { tmps := (ps.zip (encs x)).foldl (fun t (p, v) => t.setIfInBounds p v) a.tmps, defers := [] } W)
  (hbody : ∀ (l : Nat) (pre : List α) (x : α) (a' : Act) (W0 W : World), I pre W → Ax W0 x a' W → pre.length < N →
   body.wpIn (F.inRound l) (n - 1 - 1) P (fun e _ W' => e = .normal ∧ KeepsFrom w.heap.size W W' ∧ Kp W0 W' ∧ I (pre ++ [x]) W') a' W)
  (hdone : ∀ (D : Nat) (xs : List α) (W : World), w.heap.size ≤ D → S xs → I xs W → W.heap[D]? = some (.deferred (some [])) → Q .normal { a with defers := { target := .collected D, args := #[] } :: a.defers } W) :
  (Code.rangeFunc g ps assign body).wpIn F n P Q a w := by
 refine wpIn_rangeFunc fun fn hfn => ?_
 rw [hro]
 -- the loop's record, and the world with both blocks of book-keeping
 let R : LoopState → Loop := fun st => { state := st, pending := none, fn, tmps := a.tmps, params := ps, assign, body, defers := w.heap.size }
 obtain ⟨B, hB⟩ : ∃ B, B = w.heap.size := ⟨_, rfl⟩
 obtain ⟨W1, hW1⟩ : ∃ W1, W1 = (w.alloc (.deferred (some []))).alloc (.loop (R .ready)) := ⟨_, rfl⟩
 have rL : W1.heap[B + 1]? = some (.loop (R .ready)) := by
  have h := World.alloc_heap_new (w.alloc (.deferred (some []))) (.loop (R .ready))
  rw [World.size_alloc, ← hB] at h
  rw [hW1]; exact h
 have rD : W1.heap[B]? = some (.deferred (some [])) := by
  rw [hW1, hB]; exact (Below.heap_alloc _ _ _ (by simp)).trans (World.alloc_heap_new w _)
 have iI : I [] W1 := by rw [hW1]; exact hI.alloc _ (hI.alloc _ h0)
 have sz1 : W1.heap.size = B + 2 := by rw [hW1, hB]; simp
 have bl1 : Below w0.heap.size w0 W1 := by
  rw [hW1]; exact hb0.trans ((((Below.refl _ w).alloc (Nat.le_refl _) _).alloc (by simp) _).mono hb0.size)
 refine ⟨B + 1, [{ target := .collected B, args := #[] }], W1, { target := .fn (.func gf) lb, args := #[.func (.yield (B + 1)) #[] #[]] }, W1, gf, #[.func (.yield (B + 1)) #[] #[]] ++ lb, W1, ?_, ?_, ?_, ?_, fun _ => h1, ?_⟩
 ·rw [hW1, hB]; exact run_enterLoop_outer _ _ _ _ _
 ·simp only [resolve, hg]
  simp [go_sem]
 ·intro f hf
  simp [Target.leads] at hf
  rw [← hf]; exact hFg
 ·simp [invoke, go_sem, eg]
 -- what the rounds hand on: I, the loop's record at rest, the block for deferred calls
 let J : List α → World → Prop := fun pre W => I pre W ∧ W.heap[B + 1]? = some (.loop (R .ready)) ∧ W.heap[B]? = some (.deferred (some []))
 have stays : ∀ {X Y : World} {row : Option Nat} {k : Nat} {o : Obj}, X.grownBy Y row → (∀ r, row = some r → W1.heap.size ≤ r ∧ ∃ o : Obj, X.heap[r]? = some o ∧ o.isWalk = true) → k < W1.heap.size → X.heap[k]? = some o → Y.heap[k]? = some o := fun hg hr hk ho =>
  (hg.block _ (Array.getElem?_eq_some_iff.1 ho).1 (fun e => by have := (hr _ e.symm).1; omega)).trans ho
 have hJ : AbidesFrom W1.heap.size J := fun pre X Y row hs hg hr =>
  ⟨hI pre X Y row hs.1 hg (fun r e => by obtain ⟨h2, o, h3, h4⟩ := hr r e; exact ⟨by omega, o, h3, Obj.not_cells_of_walk h4⟩), stays hg hr (by omega) hs.2.1, stays hg hr (by omega) hs.2.2⟩
 refine (hseq (B + 1) J (fun _ _ => False) W1 bl1 hJ (fun _ _ _ _ hs _ _ => hs) ?_ ⟨iI, rL, rD⟩).mono ?_
 ·rintro pre x W ⟨hi, hl, hd⟩ hlen
  refine ⟨fn, _, assign, body, run_yield (P := P) (args := encs x) hl (hps x), roundIn_of_wpIn hfn (hassign _ pre x W _ hi ?_)⟩
  intro a' Wa hka hia hax
  have hl' := hka.same _ _ (by omega) hl rfl
  have hd' := hka.same _ _ (by omega) hd rfl
  have hlt := (Array.getElem?_eq_some_iff.1 hl').1
  refine ⟨_, run_beginRound hl' rfl, ?_⟩
  obtain ⟨X, hX⟩ : ∃ X, X = Wa.putObj (B + 1) (.loop (R .busy)) := ⟨_, rfl⟩
  have xl : X.heap[B + 1]? = some (.loop (R .busy)) := by rw [hX]; exact World.putObj_heap_same hlt
  have xd : X.heap[B]? = some (.deferred (some [])) := by rw [hX]; exact (World.putObj_heap_other (by omega)).trans hd'
  have xi : I pre X := by rw [hX]; exact hI.putObj _ hia (by omega) hl' rfl
  have xa : Ax W x a' X := by rw [hX]; exact (hAx W x a').putObj (s := ()) _ hax (by omega) hl' rfl
  have hb := hbody (B + 1) pre x a' W X xi xa hlen
  rw [hX] at hb
  refine wpIn_mono hb ?_
  rintro e a3 W3 ⟨rfl, hk3, hkp, hi3⟩
  rw [← hX] at hk3
  have hl3 := hk3.same _ _ (by omega) xl rfl
  have hd3 := hk3.same _ _ (by omega) xd rfl
  exact ⟨_, _, run_endRound (P := P) none hl3, .inl ⟨rfl, ⟨hI.putObj _ hi3 (by omega) hl3 rfl, World.putObj_heap_same (Array.getElem?_eq_some_iff.1 hl3).1, (World.putObj_heap_other (by omega)).trans hd3⟩, hKt hkp (hKb _ _ _ _ (by omega) hl3 rfl)⟩⟩
 ·rintro e W2 ⟨⟨v, rfl⟩, ⟨xs, hS, hi, hl, hd⟩ | ⟨pre, _, h⟩⟩
  ·exact ⟨none, _, run_endLoop (P := P) hl (by simp [R]), hdone B xs _ (by omega) hS (hI.putObj _ hi (by omega) hl rfl) ((World.putObj_heap_other (by omega)).trans hd)⟩
  ·exact h.elim
end Go.Proofs.YtfihjpffjdnahaaGreatDoor

/- What a round of compose.Compose turns: the pairs' numbers, their order, the arcs. -/
namespace Go.Proofs.YtfihjpffjdnahaaGreatDoor
open Go.RowKit Classical

def Tch (bnum Bo bO : Nat) (W : World) (b : Nat) : Prop := b = bnum ∨ b = Bo ∨ b = bO ∨ (∃ v, W.cell? ⟨Bo, 0, none⟩ = some v ∧ v.ownBlock = some b) ∨ (∃ v, W.cell? ⟨bO, 3, none⟩ = some v ∧ v.ownBlock = some b)
section
variable {bnum Bn Bo bO base base2 bml bnl : Nat} {W W' : World} {ord ord' : List (Int × Int)} {l l' : List Arc} {ov ov' fv av av' : Value} {x y : Value}
theorem tch_looks {D : Nat} (h1 : Bo < D) (h2 : bO < D) : Looks (Tch bnum Bo bO) D := by
 intro W W' hD hb b h
 have e1 : W'.cell? ⟨Bo, 0, none⟩ = W.cell? ⟨Bo, 0, none⟩ := hb.cell (p := ⟨Bo, 0, none⟩) (show Bo < W.heap.size by omega)
 have e2 : W'.cell? ⟨bO, 3, none⟩ = W.cell? ⟨bO, 3, none⟩ := hb.cell (p := ⟨bO, 3, none⟩) (show bO < W.heap.size by omega)
 unfold Tch at h ⊢
 rwa [e1, e2] at h
theorem tch_iff (hN : NumAt W Bn Bo bnum base ord ov) (hO : Blk W bO #[x, y, fv, av] 25) (b : Nat) : Tch bnum Bo bO W b ↔ b = bnum ∨ b = Bo ∨ b = bO ∨ ov.ownBlock = some b ∨ av.ownBlock = some b := by
 have e1 : W.cell? ⟨Bo, 0, none⟩ = some ov := hN.bo.cell 0
 have e2 : W.cell? ⟨bO, 3, none⟩ = some av := hO.cell 3
 unfold Tch
 rw [e1, e2]
 simp
theorem kpt_put {l : Nat} {o o' : Obj} (h : W.heap[l]? = some o) (hc : o.isCells = false) (h1 : Bo ≠ l) (h2 : bO ≠ l) (hm : bml ≠ l) (hn : bnl ≠ l) : KpT (Tch bnum Bo bO) bml bnl W (W.putObj l o') := by
 have e1 : (W.putObj l o').cell? ⟨Bo, 0, none⟩ = W.cell? ⟨Bo, 0, none⟩ := heap_cell (World.putObj_heap_other h1) 0
 have e2 : (W.putObj l o').cell? ⟨bO, 3, none⟩ = W.cell? ⟨bO, 3, none⟩ := heap_cell (World.putObj_heap_other h2) 3
 have ht : ∀ b, Tch bnum Bo bO (W.putObj l o') b ↔ Tch bnum Bo bO W b := fun b => by unfold Tch; rw [e1, e2]
 refine ⟨Nat.le_of_eq World.putObj_size.symm, World.putObj_heap_other hm, World.putObj_heap_other hn, fun b cs t hb _ => ?_, fun b _ h => (ht b).1 h, fun ho b h => by rw [World.putObj_size]; exact ho b ((ht b).1 h)⟩
 refine (World.putObj_heap_other (fun e => ?_)).trans hb
 subst e
 unfold Blk at hb
 rw [h] at hb
 cases hb
 cases hc
theorem kpt_step (hN : NumAt W Bn Bo bnum base ord ov) (hO : Blk W bO #[x, y, fv, av] 25) (hN' : NumAt W' Bn Bo bnum base ord' ov') (hO' : Blk W' bO #[x, y, fv, av'] 25) (hr : arcRow W' base2 av' l')
  (hsz : W.heap.size ≤ W'.heap.size) (hbm : W'.heap[bml]? = W.heap[bml]?) (hbn : W'.heap[bnl]? = W.heap[bnl]?) (hcell : ∀ b cs t, Blk W b cs t → ¬ (b = bnum ∨ b = Bo ∨ b = bO ∨ ov.ownBlock = some b ∨ av.ownBlock = some b) → Blk W' b cs t) (ho : ∀ g, ov'.ownBlock = some g → ov.ownBlock = some g ∨ W.heap.size ≤ g) (ha : ∀ g, av'.ownBlock = some g → av.ownBlock = some g ∨ W.heap.size ≤ g) : KpT (Tch bnum Bo bO) bml bnl W W' := by
 have t1 := tch_iff hN hO
 have t2 := tch_iff hN' hO'
 refine ⟨hsz, hbm, hbn, fun b cs t hb hT => hcell b cs t hb (fun h => hT ((t1 _).2 h)), fun b hb h => ?_, fun _ b h => ?_⟩
 ·refine (t1 b).2 ?_
  rcases (t2 b).1 h with h | h | h | h | h
  ·exact .inl h
  ·exact .inr (.inl h)
  ·exact .inr (.inr (.inl h))
  ·rcases ho b h with h | h
   ·exact .inr (.inr (.inr (.inl h)))
   ·omega
  ·rcases ha b h with h | h
   ·exact .inr (.inr (.inr (.inr h)))
   ·omega
 ·rcases (t2 b).1 h with rfl | rfl | rfl | h | h
  ·exact hN'.isMap.lt
  ·exact hN'.bo.lt
  ·exact hO'.lt
  ·exact (hN'.row.lt b h).2
  ·exact (hr.lt b h).2
theorem NumAt.chg {S : Nat → Prop} (h : NumAt W Bn Bo bnum base ord ov) (hc : Chg S W W') (h1 : ¬ S Bn) (h2 : ¬ S Bo) (h3 : ¬ S bnum) (h4 : ∀ g, ov.ownBlock = some g → ¬ S g) : NumAt W' Bn Bo bnum base ord ov :=
 ⟨h.bn.chg hc h1, h.bo.chg hc h2, h.isMap.chg hc h3, own_chg h.row hc (fun g e => h4 g e)⟩
theorem NumAt.grown {row : Option Nat} (h : NumAt W Bn Bo bnum base ord ov) (hg : W.grownBy W' row) (hr : ∀ r, row = some r → bnum < r ∧ ∃ o : Obj, W.heap[r]? = some o ∧ o.isCells = false) : NumAt W' Bn Bo bnum base ord ov :=
 ⟨ownBlk h.bn hg (fun r e => (hr r e).2), ownBlk h.bo hg (fun r e => (hr r e).2), h.isMap.grown hg (fun e => by have := (hr bnum e.symm).1; omega), own_cells h.row (fun _ _ _ _ hb => ownBlk hb hg (fun r e => (hr r e).2))⟩
end

/-- The world at the head of a round. -/
structure LW (n5 : Nat) (W5 W : World) (Bn Bo bnum bO : Nat) (ov0 : Value) (M N : Mach) (st : PSt) (i ib : Nat) (fv av ov : Value) : Prop where
 num : NumAt W Bn Bo bnum bnum st.ord ov
 out : Blk W bO #[.int .i64 0, .int .i64 0, fv, av] 25
 fin : W.ownsRow n5 3 1 fv (finO M N st.ord i).length (nums (finO M N st.ord i))
 arc : arcRow W n5 av st.arcs
 ibk : Blk W ib #[.int .i64 (i : Int)] 3
 ibl : bO < ib
 chg : Chg (fun k => k = bnum ∨ k = Bo ∨ k = bO ∨ ov0.ownBlock = some k) W5 W
 ovr : ∀ g, ov.ownBlock = some g → ov0.ownBlock = some g ∨ n5 ≤ g
 fib : fv.ownBlock ≠ some ib

theorem own_has {w : World} {base : Nat} {e : TypeId} {size n : Nat} {v : Value} {xs : List Value} (h : w.ownsRow base e size v n xs) {g : Nat} (hg : v.ownBlock = some g) : ∃ cs t, Blk w g cs t := by
 rcases h.2 with ⟨rfl, _⟩ | ⟨g', cap, cur, rfl, _, hh, _⟩
 ·cases hg
 ·have : g' = g := by injection hg
  subst this
  exact ⟨cur, e, hh⟩
/-- A round of the range has come to its end: the arc is stored. -/
theorem round_end {W6 W Wz w5 w7 w8 : World} {b1 Bn Bo bO bml bnl g1 n5 i idx : Nat} {ord6 ordz : List (Int × Int)} {st' : PSt} {s : PStep} {ov6 av6 ovx avx ov3 v8 fv : Value} {cg : Array Value}
  (hN6 : NumAt W6 Bn Bo b1 b1 ord6 ov6) (hO6 : Blk W6 bO #[.int .i64 0, .int .i64 0, fv, av6] 25)
  (h1 : NumAt W Bn Bo b1 b1 st'.ord ovx) (h3 : arcRow W n5 avx st'.arcs) (h4 : Chg (fun k => Tch b1 Bo bO W6 k) W6 W)
  (h5 : ∀ g, ovx.ownBlock = some g → ov6.ownBlock = some g ∨ W6.heap.size ≤ g) (h6 : ∀ g, avx.ownBlock = some g → av6.ownBlock = some g ∨ W6.heap.size ≤ g) (k1 : Blk W g1 cg 40)
  (za : NumAt Wz Bn Bo b1 b1 ordz ovx) (zb : Blk Wz bO #[.int .i64 0, .int .i64 0, fv, avx] 25) (zc : Wz.heap.size ≤ W.heap.size) (zd : W.heap[bml]? = Wz.heap[bml]?) (ze : W.heap[bnl]? = Wz.heap[bnl]?) (zf : ∀ b cs t, Blk Wz b cs t → Blk W b cs t)
  (k7 : W6.heap.size ≤ g1) (k9 : Wz.heap.size ≤ g1) (ho5 : ∀ g, ov3.ownBlock = some g → ovx.ownBlock = some g ∨ W.heap.size ≤ g) (hcd : Chg (fun k => k = b1 ∨ k = Bo ∨ ovx.ownBlock = some k) W w5) (hc57 : Chg (fun k => k = g1) w5 w7)
  (hO8 : Blk w8 bO #[.int .i64 0, .int .i64 0, fv, avx] 25) (hN8 : NumAt w8 Bn Bo b1 b1 (addO st'.ord s.dst) ov3) (hown8 : w8.ownsRow n5 40 4 v8 (st'.arcs.length + 1) (flat st'.arcs ++ [.int .i64 (i : Int), .int .i64 s.inp, .int .i64 s.out, .int .i64 (idx : Int)]))
  (hc78 : Chg (fun k => avx.ownBlock = some k) w7 w8) (hat9 : ∀ g, v8.ownBlock = some g → avx.ownBlock = some g ∨ w7.heap.size ≤ g) (hidx : (addO st'.ord s.dst).idxOf s.dst = idx)
  (hm : bml < W6.heap.size ∧ ¬ Tch b1 Bo bO W6 bml) (hn : bnl < W6.heap.size ∧ ¬ Tch b1 Bo bO W6 bnl) (hd : bO ≠ b1 ∧ bO ≠ Bo ∧ bO ≠ Bn) :
  KeepsFrom W6.heap.size W (w8.setCell ⟨bO, 3, none⟩ v8) ∧ KpT (Tch b1 Bo bO) bml bnl Wz (w8.setCell ⟨bO, 3, none⟩ v8) ∧
   ∃ av' ov2, NumAt (w8.setCell ⟨bO, 3, none⟩ v8) Bn Bo b1 b1 (stepO i st' s).ord ov2 ∧ Blk (w8.setCell ⟨bO, 3, none⟩ v8) bO #[.int .i64 0, .int .i64 0, fv, av'] 25 ∧ arcRow (w8.setCell ⟨bO, 3, none⟩ v8) n5 av' (stepO i st' s).arcs ∧
    Chg (fun k => Tch b1 Bo bO W6 k) W6 (w8.setCell ⟨bO, 3, none⟩ v8) ∧ (∀ g, ov2.ownBlock = some g → ov6.ownBlock = some g ∨ W6.heap.size ≤ g) ∧ (∀ g, av'.ownBlock = some g → av6.ownBlock = some g ∨ W6.heap.size ≤ g) := by
 have hz6 := h4.size
 have hz5 := hcd.size
 have hz7 := hc57.size
 have hz8 := hc78.size
 obtain ⟨W9, hW9⟩ : ∃ W9, W9 = w8.setCell ⟨bO, 3, none⟩ v8 := ⟨_, rfl⟩
 have hSW : ∀ k, (k = b1 ∨ k = Bo ∨ k = bO ∨ ovx.ownBlock = some k ∨ avx.ownBlock = some k ∨ k = g1) → k < W6.heap.size → Tch b1 Bo bO W6 k := fun k hk hkl => by
  refine (tch_iff hN6 hO6 k).2 ?_
  rcases hk with h | h | h | h | h | h
  ·exact .inl h
  ·exact .inr (.inl h)
  ·exact .inr (.inr (.inl h))
  ·rcases h5 k h with h | h
   ·exact .inr (.inr (.inr (.inl h)))
   ·omega
  ·rcases h6 k h with h | h
   ·exact .inr (.inr (.inr (.inr h)))
   ·omega
  ·omega
 have hcW8 : Chg (fun k => k = b1 ∨ k = Bo ∨ k = bO ∨ ovx.ownBlock = some k ∨ avx.ownBlock = some k ∨ k = g1) W w8 :=
  ((hcd.mono (fun k h => by rcases h with h | h | h; exact .inl h; exact .inr (.inl h); exact .inr (.inr (.inr (.inl h))))).trans (hc57.mono (fun k h => .inr (.inr (.inr (.inr (.inr h))))))).trans (hc78.mono (fun k h => .inr (.inr (.inr (.inr (.inl h))))))
 have hc89 : Chg (fun k => k = bO) w8 W9 := by rw [hW9]; exact Chg.setCell (S := fun k => k = bO) (p := ⟨bO, 3, none⟩) _ (.inl rfl) _
 have hcW9 := hcW8.trans (hc89.mono (fun k h => .inr (.inr (.inl h))))
 have hN9 : NumAt W9 Bn Bo b1 b1 (addO st'.ord s.dst) ov3 := hN8.chg hc89 (Ne.symm hd.2.2) (Ne.symm hd.2.1) (Ne.symm hd.1) (fun g e e' => hO8.own_ne hN8.row (by decide) (by rw [← e']; exact e))
 have hO9 : Blk W9 bO #[.int .i64 0, .int .i64 0, fv, v8] 25 := by
  rw [hW9]; have := hO8.set_ 3 v8; simpa using this
 have hA9 : arcRow W9 n5 v8 (stepO i st' s).arcs := by
  have h := own_setCell hown8 (p := ⟨bO, 3, none⟩) (hO8.own_ne hown8 (by decide)) v8
  rw [← hW9] at h
  unfold arcRow
  show World.ownsRow _ _ _ _ _ (st'.arcs ++ [_]).length (flat (st'.arcs ++ [_]))
  rw [List.length_append, flat_append, hidx]
  exact h
 have hav9 : ∀ g, v8.ownBlock = some g → avx.ownBlock = some g ∨ W.heap.size ≤ g := fun g e => by
  rcases hat9 g e with h | h
  ·exact .inl h
  ·exact .inr (by omega)
 have hml : bml < W.heap.size := by omega
 have hnl : bnl < W.heap.size := by omega
 have hno : ∀ b, b < W6.heap.size → ¬ Tch b1 Bo bO W6 b → W9.heap[b]? = W.heap[b]? := fun b hb hT => hcW9.block b (by omega) (fun h => hT (hSW b h hb))
 rw [← hW9]
 refine ⟨keepsFrom_chg2 _ hcW9 (fun k hk => ?_), kpt_step za zb hN9 hO9 hA9 (by have := hcW9.size; omega) ((hno _ hm.1 hm.2).trans zd) ((hno _ hn.1 hn.2).trans ze) (fun b cs t hb hT => (zf b cs t hb).chg hcW9 (fun h => ?_)) (fun g e => ?_) (fun g e => ?_), v8, ov3, hN9, hO9, hA9, h4.trans_if hcW9 (fun k hk hkl => hSW k hk hkl), fun g e => ?_, fun g e => ?_⟩
 ·rcases hk with h | h | h | h | h | h
  ·exact .inl (by have := hN6.isMap.lt; omega)
  ·exact .inl (by have := hN6.bo.lt; omega)
  ·exact .inl (by have := hO6.lt; omega)
  ·exact .inr (own_has h1.row h)
  ·exact .inr (own_has h3 h)
  ·exact .inr ⟨_, _, by rw [h]; exact k1⟩
 ·rcases h with h | h | h | h | h | h
  ·exact hT (.inl h)
  ·exact hT (.inr (.inl h))
  ·exact hT (.inr (.inr (.inl h)))
  ·exact hT (.inr (.inr (.inr (.inl h))))
  ·exact hT (.inr (.inr (.inr (.inr h))))
  ·have := hb.lt; omega
 ·rcases ho5 g e with h | h
  ·exact .inl h
  ·exact .inr (by omega)
 ·rcases hav9 g e with h | h
  ·exact .inl h
  ·exact .inr (by omega)
 ·rcases ho5 g e with h | h
  ·exact h5 g h
  ·exact .inr (by omega)
 ·rcases hav9 g e with h | h
  ·exact h6 g h
  ·exact .inr (by omega)
end Go.Proofs.YtfihjpffjdnahaaGreatDoor
