/- Walk: machine.Least: it ends. -/
import Derived.Test.YtabocamjaecaaaaGreatDoorS2
import Derived.Test.YtabocamjaecaaaaGreatDoorS5
import Derived.Test.YtabocamjaecaaaaGreatDoorK4
import Derived.Test.YtabocamjaecaaaaGreatDoorK8
import Derived.Deep.RegionHeld3
import Derived.Deep.CutBlock
import Derived.Deep.DeepCutAuto
namespace Go.Proofs.YtabocamjaecaaaaGreatDoor
open Go.RowKit Classical
open Go.Shelf
attribute [local go_sem] Oper.semAt_some

def bstr (l : List UInt8) : ByteArray := ⟨l.toArray⟩
theorem bl_bstr (l : List UInt8) : bl (bstr l) = l := by simp [bl, bstr]
theorem bstr_bl (s : ByteArray) : bstr (bl s) = s := bl_inj (bl_bstr _)
def Bst.cells (b : Bst) : List Value := [.string (bstr b.x), .string (bstr b.y), .bool b.is]
def ends (l : List Bst) : List Value := l.flatMap Bst.cells
theorem ends_length (l : List Bst) : (ends l).length = l.length * 3 := by
 induction l with
 | nil => rfl
 | cons b l ih =>
  have h : ends (b :: l) = b.cells ++ ends l := by simp [ends]
  rw [h, List.length_append, ih, List.length_cons]
  simp [Bst.cells]; omega
theorem ends_get : ∀ {l : List Bst} {k : Nat} {b : Bst}, l[k]? = some b → (ends l)[k * 3]? = some (.string (bstr b.x)) ∧ (ends l)[k * 3 + 1]? = some (.string (bstr b.y)) ∧ (ends l)[k * 3 + 2]? = some (.bool b.is)
 | [], _, _, h => by simp at h
 | c :: l, 0, b, h => by
  obtain rfl : c = b := by simpa using h
  simp [ends, Bst.cells]
 | c :: l, k + 1, b, h => by
  have := ends_get (l := l) (k := k) (b := b) (by simpa using h)
  have e : ends (c :: l) = c.cells ++ ends l := by simp [ends]
  have h3 : c.cells.length = 3 := rfl
  rw [e, show (k + 1) * 3 = k * 3 + 3 by omega]
  refine ⟨?_, ?_, ?_⟩
  ·rw [List.getElem?_append_right (by omega), h3, show k * 3 + 3 - 3 = k * 3 by omega]; exact this.1
  ·rw [List.getElem?_append_right (by omega), h3, show k * 3 + 3 + 1 - 3 = k * 3 + 1 by omega]; exact this.2.1
  ·rw [List.getElem?_append_right (by omega), h3, show k * 3 + 3 + 2 - 3 = k * 3 + 2 by omega]; exact this.2.2
theorem ends_set : ∀ {l : List Bst} {k : Nat} (b : Bst), k < l.length → (((ends l).set (k * 3) (.string (bstr b.x))).set (k * 3 + 1) (.string (bstr b.y))).set (k * 3 + 2) (.bool b.is) = ends (l.set k b)
 | [], _, _, h => by simp at h
 | c :: l, 0, b, _ => by simp [ends, Bst.cells]
 | c :: l, k + 1, b, h => by
  have := ends_set (l := l) (k := k) b (by simpa using h)
  have e : ∀ (c : Bst) l, ends (c :: l) = .string (bstr c.x) :: .string (bstr c.y) :: .bool c.is :: ends l := fun c l => by simp [ends, Bst.cells]
  rw [List.set_cons_succ, e, e, ← this, show (k + 1) * 3 = k * 3 + 1 + 1 + 1 by omega]
  simp
theorem ends_is {l : List Bst} {k : Nat} {b : Bst} (h : l[k]? = some b) : (ends l).set (k * 3 + 2) (.bool true) = ends (l.set k ⟨b.x, b.y, true⟩) := by
 have hk := (List.getElem?_eq_some_iff.1 h).1
 obtain ⟨h1, h2, _⟩ := ends_get h
 rw [← ends_set ⟨b.x, b.y, true⟩ hk]
 congr 1
 have s1 : (ends l).set (k * 3) (.string (bstr b.x)) = ends l := by
  refine List.ext_getElem? fun i => ?_
  rw [List.getElem?_set]
  split
  ·rename_i e; subst e; rw [h1]; simp [(List.getElem?_eq_some_iff.1 h1).1]
  ·rfl
 have s2 : (ends l).set (k * 3 + 1) (.string (bstr b.y)) = ends l := by
  refine List.ext_getElem? fun i => ?_
  rw [List.getElem?_set]
  split
  ·rename_i e; subst e; rw [h2]; simp [(List.getElem?_eq_some_iff.1 h2).1]
  ·rfl
 rw [s1, s2]
/-- No state knows anything. -/
def blank (n : Nat) : List Bst := List.replicate n ⟨[], [], false⟩
theorem ends_blank (n : Nat) : (madeCells #[.string ⟨#[]⟩, .string ⟨#[]⟩, .bool false] (n * 3)) = (ends (blank n)).toArray := by
 apply Array.ext
 ·simp [madeCells, ends_length, blank]
 ·intro i h1 h2
  have hi : i < n * 3 := by simpa [madeCells] using h1
  have hb : (blank n)[i / 3]? = some ⟨[], [], false⟩ := by unfold blank; rw [List.getElem?_replicate, if_pos (by omega)]
  obtain ⟨g0, g1, g2⟩ := ends_get hb
  have hr : i % 3 = 0 ∨ i % 3 = 1 ∨ i % 3 = 2 := by omega
  simp only [madeCells, Array.getElem_map, Array.getElem_range, List.getElem_toArray]
  rcases hr with e | e | e
  ·rw [show i / 3 * 3 = i by omega] at g0
   obtain ⟨_, h⟩ := List.getElem?_eq_some_iff.1 g0
   rw [h]
   simp only [List.size_toArray, List.length_cons, List.length_nil, e]
   rfl
  ·rw [show i / 3 * 3 + 1 = i by omega] at g1
   obtain ⟨_, h⟩ := List.getElem?_eq_some_iff.1 g1
   rw [h]
   simp only [List.size_toArray, List.length_cons, List.length_nil, e]
   rfl
  ·rw [show i / 3 * 3 + 2 = i by omega] at g2
   obtain ⟨_, h⟩ := List.getElem?_eq_some_iff.1 g2
   rw [h]
   simp only [List.size_toArray, List.length_cons, List.length_nil, e]
   rfl
/-- What the loop knows. -/
structure LS (W5 W : World) (M : Mach) (bb cb0 cb : Nat) (l : List Bst) (c : Bool) : Prop where
 ok : BestOk M l
 row : Blk W bb (ends l).toArray 84
 box : Blk W cb #[.bool c] 4
 chg : Chg (fun b => b = bb ∨ b = cb0) W5 W
 cbl : cb = cb0 ∨ W5.heap.size ≤ cb
 emp : ∀ (k : Nat) b, l[k]? = some b → b.is = false → b.x = [] ∧ b.y = []
theorem orI_lt {a b : Int} : orI [a, b] < 0 ↔ a < 0 ∨ a = 0 ∧ b < 0 := by
 simp only [orI]
 split
 ·split <;> omega
 ·omega
/-- The order of two ends, as the program asks it. -/
theorem bst_lt {X Y : ByteArray} {old : Bst} : orI [shortS X (bstr old.x), shortS Y (bstr old.y)] < 0 ↔ (⟨bl X, bl Y, true⟩ : Bst).lt old := by
 rw [orI_lt, shortS_lt, shortS_lt, shortS_eq, bl_bstr, bl_bstr]
 unfold Bst.lt
 constructor
 ·rintro (h | ⟨h1, h2⟩)
  ·exact .inl h
  ·exact .inr ⟨by rw [h1, bl_bstr], h2⟩
 ·rintro (h | ⟨h1, h2⟩)
  ·exact .inl h
  ·exact .inr ⟨bl_inj (by rw [bl_bstr]; exact h1), h2⟩
theorem below_dn6 {B : Nat} {a w : World} (h : Below B a w) (n : Nat) : Below B a (w.drewN n) := h.trans ⟨rfl, rfl, rfl, Nat.le_refl _, fun _ _ => rfl⟩
theorem bl_cat6 (s t : ByteArray) : bl (s ++ t) = bl s ++ bl t := by simp [bl]
theorem two_new6 {w : World} {Z : Nat} (hZ : w.heap.size = Z) (cs : Array Value) (t : TypeId) : Blk ((w.alloc (.cells cs t)).alloc (.cells cs t)).drew Z cs t ∧ Blk ((w.alloc (.cells cs t)).alloc (.cells cs t)).drew (Z + 1) cs t := by
 subst hZ
 refine ⟨(Blk.new w cs t).alloc _, ?_⟩
 have := Blk.new (w.alloc (.cells cs t)) cs t
 rw [World.size_alloc] at this
 exact this
theorem fill3 {w : World} {b : Nat} {y0 y1 y2 : Value} {t : TypeId} (h : Blk w b #[y0, y1, y2] t) (v0 v1 v2 : Value) : Blk (((w.setCell ⟨b, 0, none⟩ v0).setCell ⟨b, 1, none⟩ v1).setCell ⟨b, 2, none⟩ v2) b #[v0, v1, v2] t := by
 have := ((h.set_ 0 v0).set_ 1 v1).set_ 2 v2
 simpa using this
theorem far3 {w : World} {b b' : Nat} {cs : Array Value} {t : TypeId} (h : Blk w b' cs t) (hne : b' ≠ b) (v0 v1 v2 : Value) : Blk (((w.setCell ⟨b, 0, none⟩ v0).setCell ⟨b, 1, none⟩ v1).setCell ⟨b, 2, none⟩ v2) b' cs t :=
 ((h.far (p := ⟨b, 0, none⟩) hne v0).far (p := ⟨b, 1, none⟩) hne v1).far (p := ⟨b, 2, none⟩) hne v2
theorem below3 {B : Nat} {a w : World} {b : Nat} (h : Below B a w) (hb : B ≤ b) (v0 v1 v2 : Value) : Below B a (((w.setCell ⟨b, 0, none⟩ v0).setCell ⟨b, 1, none⟩ v1).setCell ⟨b, 2, none⟩ v2) :=
 ((h.setCell (p := ⟨b, 0, none⟩) hb v0).setCell (p := ⟨b, 1, none⟩) hb v1).setCell (p := ⟨b, 2, none⟩) hb v2
theorem wpIn_range_rounds6 {F : Fence} {n : Nat} {P : Program} {α : Type} {g : Operand} {ps : Array Tmp} {assign body : Code} {Q : Exit → Act → World → Prop} {a : Act} {w : World}
  (hro : F.round = none) (h1 : 1 ≤ n) {gf : Nat} {lb : Array Value} (hg : a.eval g = .func (.func gf) #[] lb) (hFg : F.fn gf) (eg : ∀ args w, (callFunc gf args).run P w = .ok (.enter gf args) w)
  {encs : α → Array Value} {Kp : World → World → Prop} {S Sp : List α → Prop} {N : Nat} {w0 : World} (hseq : SeqStopsK F (n - 1) P gf lb encs Kp S Sp N w0)
  (hKt : ∀ {A B C : World}, Kp A B → Kp B C → Kp A C) (hKb : ∀ (W : World) (l : Nat) (o o' : Obj), w.heap.size ≤ l → W.heap[l]? = some o → o.isCells = false → Kp W (W.putObj l o')) (hb0 : Below w0.heap.size w0 w) (hps : ∀ x, (encs x).size = ps.size)
  (I : List α → World → Prop) (hI : OwnFrom w.heap.size I) (h0 : I [] w) (Ax : World → α → Act → World → Prop) (hAx : ∀ W0 x a', OwnFrom w.heap.size (fun (_ : Unit) W => Ax W0 x a' W))
  (hassign : ∀ (l : Nat) (pre : List α) (x : α) (W : World) (K : Act → World → Prop), I pre W → (∀ a' W', KeepsFrom w.heap.size W W' → I pre W' → Ax W x a' W' → K a' W') →
   assign.wpIn (F.inRound l) (n - 1 - 1) P (Exit.then K (fun _ _ _ => False)) { tmps := (ps.zip (encs x)).foldl (fun t (p, v) => t.setIfInBounds p v) a.tmps, defers := [] } W)
  (hbody : ∀ (l : Nat) (pre : List α) (x : α) (a' : Act) (W0 W : World), I pre W → Ax W0 x a' W → pre.length < N →
   body.wpIn (F.inRound l) (n - 1 - 1) P (fun e _ W' => e = .normal ∧ KeepsFrom w.heap.size W W' ∧ Kp W0 W' ∧ I (pre ++ [x]) W') a' W)
  (hdone : ∀ (D : Nat) (xs : List α) (W : World), w.heap.size ≤ D → S xs → I xs W → W.heap[D]? = some (.deferred (some [])) → Q .normal { a with defers := { target := .collected D, args := #[] } :: a.defers } W) :
  (Code.rangeFunc g ps assign body).wpIn F n P Q a w := by
 refine wpIn_rangeFunc fun fn hfn => ?_
 rw [hro]
 -- the loop's record, and the world with both blocks of book-keeping
 let R : LoopState → Loop := fun st => { state := st, pending := none, fn, tmps := a.tmps, params := ps, assign, body, defers := w.heap.size }
 obtain ⟨B, hB⟩ : ∃ B, B = w.heap.size := ⟨_, rfl⟩
 obtain ⟨W1, hW1⟩ : ∃ W1, W1 = (w.alloc (.deferred (some []))).alloc (.loop (R .ready)) := ⟨_, rfl⟩
 have rL : W1.heap[B + 1]? = some (.loop (R .ready)) := by
  have h := World.alloc_heap_new (w.alloc (.deferred (some []))) (.loop (R .ready))
  rw [World.size_alloc, ← hB] at h
  rw [hW1]; exact h
 have rD : W1.heap[B]? = some (.deferred (some [])) := by
  rw [hW1, hB]; exact (Below.heap_alloc _ _ _ (by simp)).trans (World.alloc_heap_new w _)
 have iI : I [] W1 := by rw [hW1]; exact hI.alloc _ (hI.alloc _ h0)
 have sz1 : W1.heap.size = B + 2 := by rw [hW1, hB]; simp
 have bl1 : Below w0.heap.size w0 W1 := by
  rw [hW1]; exact hb0.trans ((((Below.refl _ w).alloc (Nat.le_refl _) _).alloc (by simp) _).mono hb0.size)
 refine ⟨B + 1, [{ target := .collected B, args := #[] }], W1, { target := .fn (.func gf) lb, args := #[.func (.yield (B + 1)) #[] #[]] }, W1, gf, #[.func (.yield (B + 1)) #[] #[]] ++ lb, W1, ?_, ?_, ?_, ?_, fun _ => h1, ?_⟩
 ·rw [hW1, hB]; exact run_enterLoop_outer _ _ _ _ _
 ·simp only [resolve, hg]
  simp [go_sem]
 ·intro f hf
  simp [Target.leads] at hf
  rw [← hf]; exact hFg
 ·simp [invoke, go_sem, eg]
 -- what the rounds hand on: I, the loop's record at rest, the block for deferred calls
 let J : List α → World → Prop := fun pre W => I pre W ∧ W.heap[B + 1]? = some (.loop (R .ready)) ∧ W.heap[B]? = some (.deferred (some []))
 have stays : ∀ {X Y : World} {row : Option Nat} {k : Nat} {o : Obj}, X.grownBy Y row → (∀ r, row = some r → W1.heap.size ≤ r ∧ ∃ o : Obj, X.heap[r]? = some o ∧ o.isWalk = true) → k < W1.heap.size → X.heap[k]? = some o → Y.heap[k]? = some o := fun hg hr hk ho =>
  (hg.block _ (Array.getElem?_eq_some_iff.1 ho).1 (fun e => by have := (hr _ e.symm).1; omega)).trans ho
 have hJ : AbidesFrom W1.heap.size J := fun pre X Y row hs hg hr =>
  ⟨hI pre X Y row hs.1 hg (fun r e => by obtain ⟨h2, o, h3, h4⟩ := hr r e; exact ⟨by omega, o, h3, Obj.not_cells_of_walk h4⟩), stays hg hr (by omega) hs.2.1, stays hg hr (by omega) hs.2.2⟩
 refine (hseq (B + 1) J (fun _ _ => False) W1 bl1 hJ (fun _ _ _ _ hs _ _ => hs) ?_ ⟨iI, rL, rD⟩).mono ?_
 ·rintro pre x W ⟨hi, hl, hd⟩ hlen
  refine ⟨fn, _, assign, body, run_yield (P := P) (args := encs x) hl (hps x), roundIn_of_wpIn hfn (hassign _ pre x W _ hi ?_)⟩
  intro a' Wa hka hia hax
  have hl' := hka.same _ _ (by omega) hl rfl
  have hd' := hka.same _ _ (by omega) hd rfl
  have hlt := (Array.getElem?_eq_some_iff.1 hl').1
  refine ⟨_, run_beginRound hl' rfl, ?_⟩
  obtain ⟨X, hX⟩ : ∃ X, X = Wa.putObj (B + 1) (.loop (R .busy)) := ⟨_, rfl⟩
  have xl : X.heap[B + 1]? = some (.loop (R .busy)) := by rw [hX]; exact World.putObj_heap_same hlt
  have xd : X.heap[B]? = some (.deferred (some [])) := by rw [hX]; exact (World.putObj_heap_other (by omega)).trans hd'
  have xi : I pre X := by rw [hX]; exact hI.putObj _ hia (by omega) hl' rfl
  have xa : Ax W x a' X := by rw [hX]; exact (hAx W x a').putObj (s := ()) _ hax (by omega) hl' rfl
  have hb := hbody (B + 1) pre x a' W X xi xa hlen
  rw [hX] at hb
  refine wpIn_mono hb ?_
  rintro e a3 W3 ⟨rfl, hk3, hkp, hi3⟩
  rw [← hX] at hk3
  have hl3 := hk3.same _ _ (by omega) xl rfl
  have hd3 := hk3.same _ _ (by omega) xd rfl
  exact ⟨_, _, run_endRound (P := P) none hl3, .inl ⟨rfl, ⟨hI.putObj _ hi3 (by omega) hl3 rfl, World.putObj_heap_same (Array.getElem?_eq_some_iff.1 hl3).1, (World.putObj_heap_other (by omega)).trans hd3⟩, hKt hkp (hKb _ _ _ _ (by omega) hl3 rfl)⟩⟩
 ·rintro e W2 ⟨⟨v, rfl⟩, ⟨xs, hS, hi, hl, hd⟩ | ⟨pre, _, h⟩⟩
  ·exact ⟨none, _, run_endLoop (P := P) hl (by simp [R]), hdone B xs _ (by omega) hS (hI.putObj _ hi (by omega) hl rfl) ((World.putObj_heap_other (by omega)).trans hd)⟩
  ·exact h.elim
theorem wpIn_cut {F : Fence} {n : Nat} {P : Program} {c : Code} {Q : Exit → Act → World → Prop} {a : Act} {w : World} (J : Act → World → Prop) (h1 : c.wpIn F n P (Exit.then J (fun _ _ _ => False)) a w) (h2 : ∀ a w, J a w → Q .normal a w) : c.wpIn F n P Q a w :=
 wpIn_mono h1 (fun e a w h => by cases e <;> first | exact h2 _ _ h | exact h.elim)
def b2n (c : Bool) : Nat := if c = true then 1 else 0
/-- What the rounds over the arcs know. -/
def LI6 (M : Mach) (n bb cb : Nat) (l : List Bst) (W6 X : World) : Prop := ∃ l' c', BestOk M l' ∧ Blk X bb (ends l').toArray 84 ∧ Blk X cb #[.bool c'] 4 ∧ Chg (fun b => b = bb ∨ b = cb) W6 X ∧ (∀ (k : Nat) b, l'[k]? = some b → b.is = false → b.x = [] ∧ b.y = []) ∧ ranks n l' + b2n c' ≤ ranks n l
theorem b2n_le (c : Bool) : b2n c ≤ 1 := by cases c <;> simp [b2n]
theorem bpm_ret6 {F : Fence} {n : Nat} {P : Program} {fn : Func} {R : Ending → World → Prop} {a : Act} {w : World} {v : Value}
  (hr : (results fn a.tmps).run P w = .ok v w) (hd : a.defers = []) (hR : R (.returned v) w) : bodyPostM F n P fn R .ret a w := by
 show LeavesInM F n P fn a.tmps R a.defers .returning w
 rw [hd]
 exact ⟨v, hr, hR⟩
theorem ret_marks6 {F : Fence} {n : Nat} {P : Program} {fn : Func} {tmps : Array Value} {R : Ending → World → Prop} {ds : List Deferred} {W : World} {n0 : Nat} {v : Value} (hmk : MarksOk ds W n0)
  (h : ∀ (W' : World) (Ds : List Nat), (∀ D ∈ Ds, n0 ≤ D ∧ W.heap[D]? = some (.deferred (some []))) → Chg (fun k => k ∈ Ds) W W' → (results fn tmps).run P W' = .ok v W' ∧ R (.returned v) W') : bodyPostM F n P fn R .ret { tmps := tmps, defers := ds } W := by
 obtain ⟨Ds, rfl, hnd, hD⟩ := hmk
 show LeavesInM _ _ _ _ _ _ _ _ _
 exact leaves_marks Ds W hnd (fun D h => (hD D h).2) (fun W' hc => ⟨v, h W' Ds hD hc⟩)
theorem keepB_put {Bm l : Nat} {L : List Arc} {aa : Option Addr} {W : World} {o' : Obj} (hm : Bm ≠ l) (hr : ∀ p, 0 < L.length → aa = some p → p.block ≠ l) : KeepB Bm L aa W (W.putObj l o') :=
 ⟨World.putObj_heap_other hm, fun h0 p hp => World.putObj_heap_other (hr p h0 hp)⟩
theorem keepB_chg {S : Nat → Prop} {Bm : Nat} {L : List Arc} {aa : Option Addr} {W W' : World} (h : Chg S W W') (hm : Bm < W.heap.size) (hmS : ¬ S Bm) (hr : ∀ p, 0 < L.length → aa = some p → p.block < W.heap.size ∧ ¬ S p.block) : KeepB Bm L aa W W' :=
 ⟨h.block _ hm hmS, fun h0 p hp => h.block _ (hr p h0 hp).1 (hr p h0 hp).2⟩
def LeastPost (M : Mach) (w : World) (e : Ending) (w' : World) : Prop :=
 ∃ (x y : ByteArray) (b : Bool) (err : Int), e = .returned (.tuple #[.string x, .string y, .bool b, .int .i64 err]) ∧ Below w.heap.size w w' ∧ (¬ ValidM M → err = 1) ∧ (ValidM M → Circle M → err = 12) ∧ (ValidM M → ¬ Circle M → err = 0)
theorem info_end : (Tryz.prog.info? 84).map (fun i => (i.zero, i.size, i.bytes)) = some (some (.agg #[.string ⟨#[]⟩, .string ⟨#[]⟩, .bool false]), 3, 40) := by kernel_rfl
set_option maxRecDepth 100000 in
set_option maxHeartbeats 8000000 in
theorem Least_any (M : Mach) (v : Value) (w : World) (h : MachAt w w.heap.size v M) : Calls Tryz.prog 9 #[v] w (LeastPost M w) := by
 have hMA := h
 obtain ⟨fa, fc, aa, ac, rfl, hfl, hal, hf, ha⟩ := h
 unfold maxLen at hfl hal
 obtain ⟨W0, hW0⟩ : ∃ W0 : World, W0 = w.alloc (.cells #[.int .i64 M.states, .int .i64 M.start, .slice fa M.final.length fc, .slice aa M.arcs.length ac] 32) := ⟨_, rfl⟩
 have hb0 : Below w.heap.size w W0 := by rw [hW0]; exact (Below.refl _ _).alloc (Nat.le_refl _) _
 have k0 : Blk W0 w.heap.size #[.int .i64 M.states, .int .i64 M.start, .slice fa M.final.length fc, .slice aa M.arcs.length ac] 32 := by rw [hW0]; exact Blk.new _ _ _
 have H0 := Lib.hid (And.intro hb0 (And.intro k0 ((hMA.below hb0 (Nat.le_refl _)).more hb0.size)))
 have HW0 := Lib.hid hW0
 have Hrow := Lib.hid (And.intro hf ha)
 have m0 : W0.cell? ⟨w.heap.size, 0, none⟩ = some (.int .i64 M.states) := k0.cell 0
 have m1 : W0.cell? ⟨w.heap.size, 1, none⟩ = some (.int .i64 M.start) := k0.cell 1
 have m2 : W0.cell? ⟨w.heap.size, 2, none⟩ = some (.slice fa M.final.length fc) := k0.cell 2
 have m3 : W0.cell? ⟨w.heap.size, 3, none⟩ = some (.slice aa M.arcs.length ac) := k0.cell 3
 have HV := Lib.hid (MValid_any M _ W0 H0.out.2.2)
 clear hW0 hb0 k0 hf ha hMA
 refine (callsIn_wide (n := 5)).1 ?_
 refine callsIn_of_wp_marks Tryz.func9 rfl trivial ?_ rfl
 simp only [Tryz.ntmps9, List.size_toArray, List.length_cons, List.length_nil, Nat.reduceAdd, Nat.reduceSub, Array.replicate_succ, Array.replicate_zero, List.push_toArray, List.append_toArray, List.nil_append, List.cons_append]
 refine wpIn_wide.2 ?_
 go_upto_region 1 with (fail)
 rw [← HW0.out]
 go_wp2_with fail
 refine HV.out.mono ?_
 rintro e w1 ⟨rfl, hb1⟩
 clear m0 m1 m2 m3
 have H1 := Lib.hid (And.intro (H0.out.1.trans (hb1.mono H0.out.1.size)) (And.intro (H0.out.2.1.below hb1 H0.out.2.1.lt) ((H0.out.2.2.below hb1 (Nat.le_refl _)).more hb1.size)))
 clear hb1
 by_cases hv : ¬ ValidM M
 ·rw [decide_eq_false hv]
  have Hv := Lib.hid hv
  clear hv
  go_wp2_with fail
  refine bpm_ret6 (v := .tuple #[.string ⟨#[]⟩, .string ⟨#[]⟩, .bool false, .int .i64 1]) (by simp [results, Tryz.results9, go_sem]) rfl ?_
  exact ⟨_, _, _, 1, rfl, H1.out.1, fun _ => rfl, fun h => absurd h Hv.out, fun h => absurd h Hv.out⟩
 have Hv := Lib.hid (Classical.not_not.1 hv)
 rw [decide_eq_true (Classical.not_not.1 hv)]
 clear hv
 have HS := Lib.hid (silent_any M Hv.out _ w1 H1.out.2.2)
 have k1 := H1.out.2.1
 have m0 : w1.cell? ⟨w.heap.size, 0, none⟩ = some (.int .i64 M.states) := k1.cell 0
 have m1 : w1.cell? ⟨w.heap.size, 1, none⟩ = some (.int .i64 M.start) := k1.cell 1
 have m2 : w1.cell? ⟨w.heap.size, 2, none⟩ = some (.slice fa M.final.length fc) := k1.cell 2
 have m3 : w1.cell? ⟨w.heap.size, 3, none⟩ = some (.slice aa M.arcs.length ac) := k1.cell 3
 clear k1
 go_wp2_with fail
 refine HS.out.mono ?_
 rintro e w2 ⟨rfl, hb2⟩
 clear m0 m1 m2 m3
 have H2 := Lib.hid (And.intro (H1.out.1.trans (hb2.mono H1.out.1.size)) (And.intro (H1.out.2.1.below hb2 H1.out.2.1.lt) ((H1.out.2.2.below hb2 (Nat.le_refl _)).more hb2.size)))
 clear hb2 HS HV H1 H0 HW0
 by_cases hc : Circle M
 ·rw [decide_eq_true hc]
  have Hc := Lib.hid hc
  clear hc
  go_wp2_with fail
  refine bpm_ret6 (v := .tuple #[.string ⟨#[]⟩, .string ⟨#[]⟩, .bool false, .int .i64 12]) (by simp [results, Tryz.results9, go_sem]) rfl ?_
  exact ⟨_, _, _, 12, rfl, H2.out.1, fun h => absurd Hv.out h, fun _ _ => rfl, fun _ h => absurd Hc.out h⟩
 rw [decide_eq_false hc]
 have Hc := Lib.hid hc
 clear hc
 obtain ⟨n, hn⟩ : ∃ n : Nat, M.states = n := ⟨M.states.toNat, by have := Hv.out.one; omega⟩
 have hn4 : n ≤ 4000 := by have := Hv.out.most; omega
 obtain ⟨i0, hi, hz0, hz1, hz2⟩ := info_parts info_end
 have hmk := fun W => run_mkrow (P := Tryz.prog) 82 84 i0 (.agg #[.string ⟨#[]⟩, .string ⟨#[]⟩, .bool false]) Tryz.underlying82 hi hz0 .i64 .i64 n n (Nat.le_refl _) (by rw [hz2]; omega) (by omega) W
 rw [hz1] at hmk
 have k2 := H2.out.2.1
 have m0 : w2.cell? ⟨w.heap.size, 0, none⟩ = some (.int .i64 n) := by rw [← hn]; exact k2.cell 0
 have m2 : w2.cell? ⟨w.heap.size, 2, none⟩ = some (.slice fa M.final.length fc) := k2.cell 2
 have Hn := Lib.hid hn
 clear k2 hn
 go_upto_region 6 with (fail)
 generalize hW4 : ((w2.alloc _).alloc _) = W4
 obtain ⟨bb, hbb⟩ : ∃ b, w2.heap.size = b := ⟨_, rfl⟩
 have kr : Blk W4 bb (ends (blank n)).toArray 84 := by
  rw [← hW4, ← hbb, ← ends_blank]; exact (Blk.new _ _ _).alloc _
 have kb : Blk W4 (bb + 1) #[.slice (some ⟨bb, 0, none⟩) n n] 82 := by
  rw [← hW4, ← hbb]
  have := Blk.new (w2.alloc (.cells (madeCells #[.string ⟨#[]⟩, .string ⟨#[]⟩, .bool false] (n * 3)) 84)) #[.slice (some ⟨w2.heap.size, 0, none⟩) n n] 82
  simpa using this
 have h24 : Below w2.heap.size w2 W4 := by rw [← hW4]; exact ((Below.refl _ _).alloc (Nat.le_refl _) _).alloc (by simp) _
 have hs4 : W4.heap.size = bb + 2 := by rw [← hW4, ← hbb]; simp
 have hw4 := H2.out.1.trans (h24.mono H2.out.1.size)
 have hrow4 := And.intro (Hrow.out.1.below hw4 (Nat.le_refl _)) (Hrow.out.2.below hw4 (Nat.le_refl _))
 have k4 := H2.out.2.1.below h24 H2.out.2.1.lt
 have hlt : w.heap.size < bb := by rw [← hbb]; exact H2.out.2.1.lt
 rw [hbb]
 have H4 := Lib.hid (And.intro hw4 (And.intro k4 (And.intro kb hrow4)))
 have HR := Lib.hid kr
 have Hs4 := Lib.hid (And.intro hs4 hbb)
 have n2 : W4.cell? ⟨w.heap.size, 2, none⟩ = some (.slice fa M.final.length fc) := k4.cell 2
 clear hW4 kr kb h24 hs4 hw4 hrow4 k4 hbb m0 m2 hmk H2 hi hz0 hz1 hz2
 go_wp2_with fail
 clear n2
 go_loopw [30] (fun s wr => ∃ (k : Nat) (l : List Bst), k ≤ M.final.length ∧ s = .int .i64 k ∧ l.length = n ∧ (∀ (j : Nat) b, l[j]? = some b → b.x = [] ∧ b.y = [] ∧ (b.is = true → (j : Int) ∈ M.final)) ∧
  Blk wr bb (ends l).toArray 84 ∧ Chg (fun b => b = bb) W4 wr) (fun s _ => M.final.length - (intOf s).toNat)
 case atStart =>
  refine ⟨0, blank n, Nat.zero_le _, rfl, by simp [blank], fun j b hb => ?_, HR.out, Chg.refl _ _⟩
  unfold blank at hb
  rw [List.getElem?_replicate] at hb
  split at hb
  ·cases hb; exact ⟨rfl, rfl, fun h => by cases h⟩
  ·cases hb
 case round =>
  obtain ⟨k, l, hk, rfl, hll, hok, hb, hch⟩ := hrel
  by_cases hkl : k < M.final.length
  ·have kb2 : wr.cell? ⟨bb + 1, 0, none⟩ = some (.slice (some ⟨bb, 0, none⟩) n n) := (H4.out.2.2.1.chg hch (by omega)).cell 0
   obtain ⟨g, o, rfl, hg, hcell⟩ := H4.out.2.2.2.1.nums (by omega)
   have hgc : wr.cell? ⟨g, o + k, none⟩ = some (.int .i64 M.final[k]) := (heap_cell (hch.block g (by have := Hs4.out.1; omega) (by omega)) (o + k)).trans (hcell k hkl)
   obtain ⟨hz0, hz1⟩ := Hv.out.final _ (List.getElem_mem hkl)
   obtain ⟨z, hz⟩ : ∃ z : Nat, M.final[k] = z := ⟨(M.final[k]).toNat, by omega⟩
   have Hz := Lib.hid (show (z : Int) ∈ M.final by rw [← hz]; exact List.getElem_mem hkl)
   have hn := Hn.out
   have hzn : z < n := by omega
   rw [hz] at hgc
   obtain ⟨b0, hb0⟩ : ∃ b0, l[z]? = some b0 := ⟨l[z], List.getElem?_eq_getElem (by omega)⟩
   have hset := hb.set_ (z * 3 + 2) (.bool true)
   have eset : (ends l).toArray.setIfInBounds (z * 3 + 2) (.bool true) = (ends (l.set z ⟨b0.x, b0.y, true⟩)).toArray := by
    rw [← ends_is hb0]; simp
   rw [eset] at hset
   have hc2 : wr.cell? ⟨bb, z * 3 + 2, none⟩ = some (.bool b0.is) := (hb.cell _).trans (by simpa using (ends_get hb0).2.2)
   have hf2 := hb.frozen (z * 3 + 2)
   have HS2 := Lib.hid (And.intro hset (And.intro (hch.trans (Chg.setCell (S := fun b => b = bb) wr (p := ⟨bb, z * 3 + 2, none⟩) (.inl rfl) (.bool true))) (And.intro hok hb0)))
   clear hset eset hcell hb hch hok hb0 hz0 hz1 hz hn
   go_wp2_with fail
   refine ⟨⟨k + 1, l.set z ⟨b0.x, b0.y, true⟩, by omega, by go_num, by rw [List.length_set]; exact hll, fun j b hj => ?_, HS2.out.1, HS2.out.2.1⟩, by simp [intOf]; omega⟩
   by_cases e : j = z
   ·subst e
    rw [List.getElem?_set_self (by omega)] at hj
    cases hj
    exact ⟨(HS2.out.2.2.1 _ _ HS2.out.2.2.2).1, (HS2.out.2.2.1 _ _ HS2.out.2.2.2).2.1, fun _ => Hz.out⟩
   ·rw [List.getElem?_set_ne (fun e' => e e'.symm)] at hj
    exact HS2.out.2.2.1 j b hj
  ·obtain rfl : k = M.final.length := by omega
   have hok2 : BestOk M l := BestOk.start (by rw [Hn.out, hll]) hok
   have hemp0 : ∀ (j : Nat) b, l[j]? = some b → b.is = false → b.x = [] ∧ b.y = [] := fun j b hj _ => ⟨(hok j b hj).1, (hok j b hj).2.1⟩
   have hz4 := hch.size
   have hs4 := Hs4.out.1
   have HC := Lib.hid (And.intro hok2 (And.intro hb (And.intro hch hemp0)))
   clear hok hok2 hb hch hemp0 hk
   go_wp2_with fail
   generalize hW5 : World.alloc wr _ = W5
   obtain ⟨cb0, hcb0⟩ : ∃ b, wr.heap.size = b := ⟨_, rfl⟩
   have kc : Blk W5 cb0 #[.bool true] 4 := by rw [← hW5, ← hcb0]; exact Blk.new _ _ _
   have hb5 : Below wr.heap.size wr W5 := by rw [← hW5]; exact (Below.refl _ _).alloc (Nat.le_refl _) _
   have hs5 : W5.heap.size = cb0 + 1 := by rw [← hW5, ← hcb0]; simp
   have hcl : bb + 2 ≤ cb0 := by omega
   rw [hcb0]
   have hkw : ∀ W, Chg (fun b => b = bb ∨ b = cb0) W5 W → Below w.heap.size w W := fun W hc =>
    ((H4.out.1.trans (HC.out.2.2.1.below (fun k hk => by have : k = bb := hk; omega) H4.out.1.size)).trans (hb5.mono (by have := H4.out.1.size; omega))).trans (hc.below (fun k hk => by rcases hk with h | h <;> omega) (by have := H4.out.1.size; omega))
   have hbx5 : Blk W5 (bb + 1) #[.slice (some ⟨bb, 0, none⟩) n n] 82 := (H4.out.2.2.1.chg HC.out.2.2.1 (by omega)).below hb5 (by omega)
   have hm5 : Blk W5 w.heap.size #[.int .i64 M.states, .int .i64 M.start, .slice fa M.final.length fc, .slice aa M.arcs.length ac] 32 := (H4.out.2.1.chg HC.out.2.2.1 (by omega)).below hb5 (by omega)
   have HK := Lib.hid hkw
   have H5 := Lib.hid (And.intro hbx5 (And.intro hm5 (And.intro hs5 hcl)))
   have hs51 : W5.heap.size ≤ cb0 + 1 := by omega
   have hs52 : cb0 + 1 ≤ W5.heap.size := by omega
   have HL0 := Lib.hid (show LS W5 W5 M bb cb0 cb0 l true from ⟨HC.out.1, HC.out.2.1.below hb5 HC.out.2.1.lt, kc, Chg.refl _ _, .inl rfl, HC.out.2.2.2⟩)
   clear hkw hbx5 hm5 hs5 kc hb5 hW5 hcb0 hz4 hs4 HC hkl
   refine wp_reframe (fun u => (List.toArray (α := Value) (.agg #[.int .i64 M.states, .int .i64 M.start, .slice fa M.final.length fc, .slice aa M.arcs.length ac] :: .pointer (some ⟨w.heap.size, 0, none⟩) :: .string ⟨#[]⟩ :: .string ⟨#[]⟩ :: .bool false :: .int .i64 0 :: .pointer (some ⟨bb + 1, 0, none⟩) :: u 7 :: u 8 :: .pointer (some ⟨cb0, 0, none⟩) :: u 10 :: u 11 :: u 12 :: u 13 :: u 14 :: u 15 :: u 16 :: u 17 :: u 18 :: u 19 :: u 20 :: u 21 :: u 22 :: u 23 :: u 24 :: u 25 :: u 26 :: u 27 :: u 28 :: u 29 :: u 30 :: u 31 :: u 32 :: u 33 :: u 34 :: u 35 :: u 36 :: u 37 :: u 38 :: u 39 :: u 40 :: u 41 :: u 42 :: u 43 :: u 44 :: u 45 :: u 46 :: u 47 :: u 48 :: u 49 :: u 50 :: u 51 :: u 52 :: u 53 :: u 54 :: u 55 :: u 56 :: u 57 :: u 58 :: u 59 :: u 60 :: u 61 :: u 62 :: u 63 :: u 64 :: u 65 :: u 66 :: u 67 :: u 68 :: u 69 :: u 70 :: u 71 :: u 72 :: u 73 :: u 74 :: u 75 :: u 76 :: u 77 :: u 78 :: u 79 :: u 80 :: u 81 :: u 82 :: u 83 :: u 84 :: u 85 :: u 86 :: u 87 :: u 88 :: u 89 :: u 90 :: u 91 :: u 92 :: u 93 :: u 94 :: u 95 :: u 96 :: u 97 :: u 98 :: u 99 :: u 100 :: u 101 :: u 102 :: u 103 :: u 104 :: u 105 :: []))) rfl ?_
   intro u
   have HRel : ∀ (T : Array Value) (ds : List Deferred) (W : World) (cb : Nat) (l : List Bst) (c : Bool) (m : Nat), T = (fun u : Nat → Value => (List.toArray (α := Value) (.agg #[.int .i64 M.states, .int .i64 M.start, .slice fa M.final.length fc, .slice aa M.arcs.length ac] :: .pointer (some ⟨w.heap.size, 0, none⟩) :: .string ⟨#[]⟩ :: .string ⟨#[]⟩ :: .bool false :: .int .i64 0 :: .pointer (some ⟨bb + 1, 0, none⟩) :: u 7 :: u 8 :: .pointer (some ⟨cb, 0, none⟩) :: u 10 :: u 11 :: u 12 :: u 13 :: u 14 :: u 15 :: u 16 :: u 17 :: u 18 :: u 19 :: u 20 :: u 21 :: u 22 :: u 23 :: u 24 :: u 25 :: u 26 :: u 27 :: u 28 :: u 29 :: u 30 :: u 31 :: u 32 :: u 33 :: u 34 :: u 35 :: u 36 :: u 37 :: u 38 :: u 39 :: u 40 :: u 41 :: u 42 :: u 43 :: u 44 :: u 45 :: u 46 :: u 47 :: u 48 :: u 49 :: u 50 :: u 51 :: u 52 :: u 53 :: u 54 :: u 55 :: u 56 :: u 57 :: u 58 :: u 59 :: u 60 :: u 61 :: u 62 :: u 63 :: u 64 :: u 65 :: u 66 :: u 67 :: u 68 :: u 69 :: u 70 :: u 71 :: u 72 :: u 73 :: u 74 :: u 75 :: u 76 :: u 77 :: u 78 :: u 79 :: u 80 :: u 81 :: u 82 :: u 83 :: u 84 :: u 85 :: u 86 :: u 87 :: u 88 :: u 89 :: u 90 :: u 91 :: u 92 :: u 93 :: u 94 :: u 95 :: u 96 :: u 97 :: u 98 :: u 99 :: u 100 :: u 101 :: u 102 :: u 103 :: u 104 :: u 105 :: []))) (fun k => T[k]?.getD undef) → m = ranks n l + b2n c → LS W5 W M bb cb0 cb l c → MarksOk ds W W5.heap.size →
     ∃ (u : Nat → Value) (ds' : List Deferred) (l' : List Bst) (c' : Bool) (cb' : Nat), ({ tmps := T, defers := ds } : Act) = { tmps := (List.toArray (α := Value) (.agg #[.int .i64 M.states, .int .i64 M.start, .slice fa M.final.length fc, .slice aa M.arcs.length ac] :: .pointer (some ⟨w.heap.size, 0, none⟩) :: .string ⟨#[]⟩ :: .string ⟨#[]⟩ :: .bool false :: .int .i64 0 :: .pointer (some ⟨bb + 1, 0, none⟩) :: u 7 :: u 8 :: .pointer (some ⟨cb', 0, none⟩) :: u 10 :: u 11 :: u 12 :: u 13 :: u 14 :: u 15 :: u 16 :: u 17 :: u 18 :: u 19 :: u 20 :: u 21 :: u 22 :: u 23 :: u 24 :: u 25 :: u 26 :: u 27 :: u 28 :: u 29 :: u 30 :: u 31 :: u 32 :: u 33 :: u 34 :: u 35 :: u 36 :: u 37 :: u 38 :: u 39 :: u 40 :: u 41 :: u 42 :: u 43 :: u 44 :: u 45 :: u 46 :: u 47 :: u 48 :: u 49 :: u 50 :: u 51 :: u 52 :: u 53 :: u 54 :: u 55 :: u 56 :: u 57 :: u 58 :: u 59 :: u 60 :: u 61 :: u 62 :: u 63 :: u 64 :: u 65 :: u 66 :: u 67 :: u 68 :: u 69 :: u 70 :: u 71 :: u 72 :: u 73 :: u 74 :: u 75 :: u 76 :: u 77 :: u 78 :: u 79 :: u 80 :: u 81 :: u 82 :: u 83 :: u 84 :: u 85 :: u 86 :: u 87 :: u 88 :: u 89 :: u 90 :: u 91 :: u 92 :: u 93 :: u 94 :: u 95 :: u 96 :: u 97 :: u 98 :: u 99 :: u 100 :: u 101 :: u 102 :: u 103 :: u 104 :: u 105 :: [])), defers := ds' } ∧ m = ranks n l' + b2n c' ∧ LS W5 W M bb cb0 cb' l' c' ∧ MarksOk ds' W W5.heap.size := by
    rintro T ds W cb l c m hT hm h1 h2
    exact ⟨fun k => T[k]?.getD undef, ds, l, c, cb, congrArg (fun t => ({ tmps := t, defers := ds } : Act)) hT, hm, h1, h2⟩
   have HRel := Lib.hid HRel
   refine wp_loop_ghost (fun m a W => ∃ (u : Nat → Value) (ds' : List Deferred) (l' : List Bst) (c' : Bool) (cb' : Nat), a = { tmps := (List.toArray (α := Value) (.agg #[.int .i64 M.states, .int .i64 M.start, .slice fa M.final.length fc, .slice aa M.arcs.length ac] :: .pointer (some ⟨w.heap.size, 0, none⟩) :: .string ⟨#[]⟩ :: .string ⟨#[]⟩ :: .bool false :: .int .i64 0 :: .pointer (some ⟨bb + 1, 0, none⟩) :: u 7 :: u 8 :: .pointer (some ⟨cb', 0, none⟩) :: u 10 :: u 11 :: u 12 :: u 13 :: u 14 :: u 15 :: u 16 :: u 17 :: u 18 :: u 19 :: u 20 :: u 21 :: u 22 :: u 23 :: u 24 :: u 25 :: u 26 :: u 27 :: u 28 :: u 29 :: u 30 :: u 31 :: u 32 :: u 33 :: u 34 :: u 35 :: u 36 :: u 37 :: u 38 :: u 39 :: u 40 :: u 41 :: u 42 :: u 43 :: u 44 :: u 45 :: u 46 :: u 47 :: u 48 :: u 49 :: u 50 :: u 51 :: u 52 :: u 53 :: u 54 :: u 55 :: u 56 :: u 57 :: u 58 :: u 59 :: u 60 :: u 61 :: u 62 :: u 63 :: u 64 :: u 65 :: u 66 :: u 67 :: u 68 :: u 69 :: u 70 :: u 71 :: u 72 :: u 73 :: u 74 :: u 75 :: u 76 :: u 77 :: u 78 :: u 79 :: u 80 :: u 81 :: u 82 :: u 83 :: u 84 :: u 85 :: u 86 :: u 87 :: u 88 :: u 89 :: u 90 :: u 91 :: u 92 :: u 93 :: u 94 :: u 95 :: u 96 :: u 97 :: u 98 :: u 99 :: u 100 :: u 101 :: u 102 :: u 103 :: u 104 :: u 105 :: [])), defers := ds' } ∧ m = ranks n l' + b2n c' ∧ LS W5 W M bb cb0 cb' l' c' ∧ MarksOk ds' W W5.heap.size) (ranks n l + b2n true)
    ⟨u, [], l, true, cb0, rfl, rfl, HL0.out, MarksOk.nil _ _⟩ ?_
   clear u HL0 hll l
   rintro m a W ⟨u, ds, l, c, cb, rfl, rfl, hL, hmk⟩
   have hlen : l.length = n := by have := hL.ok.len; have := Hn.out; omega
   have c0 : W.cell? ⟨cb, 0, none⟩ = some (.bool c) := hL.box.cell 0
   have HL := Lib.hid (And.intro hL hmk)
   have hz5 := hL.chg.size
   have hcbl := hL.cbl
   clear hL hmk
   cases c with
   | false =>
    have hst := Hv.out.start
    unfold StateOk at hst
    obtain ⟨s, hs⟩ : ∃ s : Nat, M.start = s := ⟨M.start.toNat, by omega⟩
    have hsn : s < n := by have := Hn.out; omega
    obtain ⟨b, hbs⟩ : ∃ b, l[s]? = some b := ⟨l[s]'(by omega), List.getElem?_eq_getElem _⟩
    obtain ⟨g0, g1, g2⟩ := ends_get hbs
    have r0 : W.cell? ⟨bb, s * 3, none⟩ = some (.string (bstr b.x)) := (HL.out.1.row.cell _).trans (by simpa using g0)
    have r1 : W.cell? ⟨bb, s * 3 + 1, none⟩ = some (.string (bstr b.y)) := (HL.out.1.row.cell _).trans (by simpa using g1)
    have r2 : W.cell? ⟨bb, s * 3 + 2, none⟩ = some (.bool b.is) := (HL.out.1.row.cell _).trans (by simpa using g2)
    have q1 : W.cell? ⟨w.heap.size, 1, none⟩ = some (.int .i64 s) := by rw [← hs]; exact (H5.out.2.1.chg HL.out.1.chg (by omega)).cell 1
    have q2 : W.cell? ⟨bb + 1, 0, none⟩ = some (.slice (some ⟨bb, 0, none⟩) n n) := (H5.out.1.chg HL.out.1.chg (by omega)).cell 0
    have HB := Lib.hid (HK.out W HL.out.1.chg)
    have Hmk := Lib.hid HL.out.2
    clear HRel HL hbs g0 g1 g2 hs hst H5 HK Hrow Hs4 H4 HR
    go_wp2_with fail
    go_quiet (fail)
    go_wp2
    refine ret_marks6 (n0 := W5.heap.size) (v := .tuple #[.string (bstr b.x), .string (bstr b.y), .bool b.is, .int .i64 0]) (Hmk.out.chg (Chg.of_below (fun _ => False) (below_dn6 ((Below.refl _ _).alloc (Nat.le_refl _) _) _)) (fun _ _ _ h => h)) (fun W' Ds hD hc => ⟨by simp [results, Tryz.results9, go_sem], ?_⟩)
    exact ⟨_, _, _, 0, rfl, (HB.out.trans (below_dn6 ((Below.refl _ _).alloc HB.out.size _) _)).trans (hc.below (fun D hD' => by have := (hD D hD').1; omega) (by have := HB.out.size; simp; omega)), fun h => absurd Hv.out h, fun _ h => absurd h Hc.out, fun _ _ => rfl⟩
   | true =>
    have hcbn : cb ≠ bb := by omega
    have hcbm : cb ≠ w.heap.size := by omega
    have cf := HL.out.1.box.frozen 0
    have q3 : (W.setCell ⟨cb, 0, none⟩ (.bool false)).cell? ⟨w.heap.size, 3, none⟩ = some (.slice aa M.arcs.length ac) := (World.cell?_setCell_far _ _ _ _ hcbm).trans ((H5.out.2.1.chg HL.out.1.chg (by omega)).cell 3)
    go_wp2_with (go_at_call 30; refine (back_any _ _ _ _).mono ?_; rintro e w' ⟨rfl, hwe⟩)
    obtain ⟨W6, hW6⟩ : ∃ W6 : World, W6 = (W.setCell ⟨cb, 0, none⟩ (.bool false)).alloc (.cells #[.slice aa M.arcs.length ac] 30) := ⟨_, rfl⟩
    try rw [hwe]
    rw [← hW6]
    have hc6 : Chg (fun b => b = cb) W W6 := by rw [hW6]; exact (Chg.setCell (S := fun b => b = cb) (p := ⟨cb, 0, none⟩) W (.inl rfl) _).trans (Chg.alloc _ _ _)
    have kB : Blk W6 W.heap.size #[.slice aa M.arcs.length ac] 30 := by rw [hW6]; have := Blk.new (W.setCell ⟨cb, 0, none⟩ (.bool false)) #[.slice aa M.arcs.length ac] 30; simpa [World.setCell] using this
    have kc6 : Blk W6 cb #[.bool false] 4 := by rw [hW6]; have := (HL.out.1.box.set_ 0 (.bool false)).alloc (.cells #[.slice aa M.arcs.length ac] 30); simpa using this
    have kr6 : Blk W6 bb (ends l).toArray 84 := HL.out.1.row.chg hc6 (by omega)
    have hs6 : W6.heap.size = W.heap.size + 1 := by rw [hW6]; simp [World.setCell]
    obtain ⟨o, ho⟩ : ∃ o, W.heap.size = o := ⟨_, rfl⟩
    have hc56 : Chg (fun b => b = bb ∨ b = cb0) W5 W6 := HL.out.1.chg.trans_if hc6 (fun k hk hkl => by have hk : k = cb := hk; right; omega)
    have hA6 : RowAt W6 W6.heap.size aa (flat M.arcs) := (Hrow.out.2.below (HK.out W6 hc56) (Nat.le_refl _)).more (HK.out W6 hc56).size
    have hap : ∀ p : Addr, 0 < M.arcs.length → aa = some p → p.block < w.heap.size := fun p h0 hp => by
     obtain ⟨b, off, e, hb, _⟩ := Hrow.out.2 (by rw [flat_length]; omega)
     rw [hp] at e; cases e; exact hb
    rw [ho] at kB hs6 ⊢
    obtain ⟨SQ, hSQ⟩ : ∃ SQ, SQ = downs M.arcs M.arcs.length := ⟨_, rfl⟩
    have hin : ∀ x ∈ SQ, M.arcs[x.1]? = some x.2 := by rw [hSQ]; exact fun x hx => mem_downs hx
    have hcbo : cb < o := by have := HL.out.1.box.lt; omega
    have hmk6 : MarksOk ds W6 W5.heap.size := HL.out.2.chg hc6 (fun D hD _ hk => by
     have hk : D = cb := hk
     have hx := HL.out.1.box
     unfold Blk at hx
     rw [← hk, hD] at hx; cases hx)
    have Hmk6 := Lib.hid hmk6
    have H6 := Lib.hid (And.intro (show BackAt W6 o M.arcs aa ac from ⟨kB.cell 0, hA6⟩) (And.intro hc56 (And.intro kr6 (And.intro kc6 (And.intro hSQ (And.intro hap (And.intro hin hs6)))))))
    have hbo : bb + 1 < o := by omega
    have hwo : w.heap.size < o := by omega
    have hEnd : ∀ (Wz X X' : World), KeepB o M.arcs aa Wz X → Chg (fun b => b = bb ∨ b = cb) W6 X → (∃ cs t, Blk X bb cs t) → (∃ cs t, Blk X cb cs t) → Chg (fun b => b = bb ∨ b = cb) X X' →
      (∃ l' c', BestOk M l' ∧ Blk X' bb (ends l').toArray 84 ∧ Blk X' cb #[.bool c'] 4 ∧ (∀ (k : Nat) b, l'[k]? = some b → b.is = false → b.x = [] ∧ b.y = []) ∧ ranks n l' + b2n c' ≤ ranks n l) →
      KeepsFrom W6.heap.size X X' ∧ KeepB o M.arcs aa Wz X' ∧ LI6 M n bb cb l W6 X' := by
     rintro Wz X X' h1 h2 h3 h4 h5 ⟨l', c', q1, q2, q3, q4, q5⟩
     have hzX := h2.size
     refine ⟨keepsFrom_chg2 _ h5 (fun k hk => by rcases hk with rfl | rfl; exact .inr h3; exact .inr h4), h1.trans (keepB_chg h5 (by omega) (by omega) (fun p h0 hp => ?_)), l', c', q1, q2, q3, h2.trans h5, q4, q5⟩
     have := hap p h0 hp
     exact ⟨by omega, by omega⟩
    have HEnd := Lib.hid hEnd
    have hs61 : W6.heap.size ≤ o + 1 := by omega
    have hs62 : o + 1 ≤ W6.heap.size := by omega
    clear hs6 hEnd hmk6 hc6 kB kc6 kr6 hc56 hA6 hap hSQ hin hwe hW6 q3 cf c0
    refine wp_reframe (fun u => (List.toArray (α := Value) (.agg #[.int .i64 M.states, .int .i64 M.start, .slice fa M.final.length fc, .slice aa M.arcs.length ac] :: .pointer (some ⟨w.heap.size, 0, none⟩) :: .string ⟨#[]⟩ :: .string ⟨#[]⟩ :: .bool false :: .int .i64 0 :: .pointer (some ⟨bb + 1, 0, none⟩) :: u 7 :: u 8 :: .pointer (some ⟨cb, 0, none⟩) :: u 10 :: u 11 :: u 12 :: u 13 :: u 14 :: u 15 :: u 16 :: u 17 :: u 18 :: u 19 :: u 20 :: u 21 :: u 22 :: u 23 :: u 24 :: u 25 :: u 26 :: u 27 :: u 28 :: u 29 :: u 30 :: u 31 :: u 32 :: u 33 :: u 34 :: u 35 :: u 36 :: u 37 :: u 38 :: u 39 :: u 40 :: u 41 :: .func (.func 55) #[] #[.pointer (some ⟨o, 0, none⟩)] :: u 43 :: u 44 :: u 45 :: u 46 :: u 47 :: u 48 :: u 49 :: u 50 :: u 51 :: u 52 :: u 53 :: u 54 :: u 55 :: u 56 :: u 57 :: u 58 :: u 59 :: u 60 :: u 61 :: u 62 :: u 63 :: u 64 :: u 65 :: u 66 :: u 67 :: u 68 :: u 69 :: u 70 :: u 71 :: u 72 :: u 73 :: u 74 :: u 75 :: u 76 :: u 77 :: u 78 :: u 79 :: u 80 :: u 81 :: u 82 :: u 83 :: u 84 :: u 85 :: u 86 :: u 87 :: u 88 :: u 89 :: u 90 :: u 91 :: u 92 :: u 93 :: u 94 :: u 95 :: u 96 :: u 97 :: u 98 :: u 99 :: u 100 :: u 101 :: u 102 :: u 103 :: u 104 :: u 105 :: []))) rfl ?_
    clear u
    intro u
    refine (wpIn_wide (n := 5)).1 ?_
    refine wpIn_range_rounds6 (α := {x // x ∈ SQ}) (encs := fun x => bargs x.1) (Kp := KeepB o M.arcs aa) (S := fun ys => ys.map (·.1) = SQ) (Sp := fun _ => True) (N := SQ.length) (w0 := W6)
     rfl (by omega) (gf := 55) (lb := #[.pointer (some ⟨o, 0, none⟩)]) rfl trivial (enters_of Tryz.func55 (by kernel_rfl) rfl)
     ?seq (fun h k => h.trans k) ?kb (Below.refl _ _) (fun _ => rfl)
     (fun _ X => LI6 M n bb cb l W6 X)
     ?hI ?h0
     (fun Wz x a' X => ∃ g, a' = { tmps := (List.toArray (α := Value) (.agg #[.int .i64 M.states, .int .i64 M.start, .slice fa M.final.length fc, .slice aa M.arcs.length ac] :: .pointer (some ⟨w.heap.size, 0, none⟩) :: .string ⟨#[]⟩ :: .string ⟨#[]⟩ :: .bool false :: .int .i64 0 :: .pointer (some ⟨bb + 1, 0, none⟩) :: u 7 :: u 8 :: .pointer (some ⟨cb, 0, none⟩) :: u 10 :: .pointer (some ⟨g, 0, none⟩) :: u 12 :: u 13 :: u 14 :: u 15 :: u 16 :: u 17 :: u 18 :: u 19 :: u 20 :: u 21 :: u 22 :: u 23 :: u 24 :: u 25 :: u 26 :: u 27 :: u 28 :: u 29 :: u 30 :: u 31 :: u 32 :: u 33 :: u 34 :: u 35 :: u 36 :: u 37 :: u 38 :: u 39 :: u 40 :: u 41 :: .func (.func 55) #[] #[.pointer (some ⟨o, 0, none⟩)] :: .int .i64 (x.1.1 : Int) :: .agg #[.int .i64 x.1.2.frm, .int .i64 x.1.2.inp, .int .i64 x.1.2.out, .int .i64 x.1.2.to] :: u 45 :: u 46 :: u 47 :: u 48 :: u 49 :: u 50 :: u 51 :: u 52 :: u 53 :: u 54 :: u 55 :: u 56 :: u 57 :: u 58 :: u 59 :: u 60 :: u 61 :: u 62 :: u 63 :: u 64 :: u 65 :: u 66 :: u 67 :: u 68 :: u 69 :: u 70 :: u 71 :: u 72 :: u 73 :: u 74 :: u 75 :: u 76 :: u 77 :: u 78 :: u 79 :: u 80 :: u 81 :: u 82 :: u 83 :: u 84 :: u 85 :: u 86 :: u 87 :: u 88 :: u 89 :: u 90 :: u 91 :: u 92 :: u 93 :: u 94 :: u 95 :: u 96 :: u 97 :: u 98 :: u 99 :: u 100 :: u 101 :: u 102 :: u 103 :: u 104 :: u 105 :: [])), defers := [] } ∧ Blk X g #[.int .i64 x.1.2.frm, .int .i64 x.1.2.inp, .int .i64 x.1.2.out, .int .i64 x.1.2.to] 49 ∧ W6.heap.size ≤ g ∧ KeepB o M.arcs aa Wz X)
     ?hAx ?assign ?body ?done
    case seq => exact back_seq 4 (by omega) o M.arcs aa ac Hv.out.arcsLen SQ H6.out.2.2.2.2.1 W6 H6.out.1
    case kb =>
     intro X lv ob ob' hl h1 h2
     exact keepB_put (by omega) (fun p h0 hp => by have := H6.out.2.2.2.2.2.1 p h0 hp; omega)
    case hI =>
     rintro pre X Y row ⟨l', c', h1, h2, h3, h4, h5, h6⟩ hg hr
     exact ⟨l', c', h1, ownBlk h2 hg (fun r e => (hr r e).2), ownBlk h3 hg (fun r e => (hr r e).2), h4.grown hg (fun r e => (hr r e).1), h5, h6⟩
    case h0 => exact ⟨l, false, HL.out.1.ok, H6.out.2.2.1, H6.out.2.2.2.1, Chg.refl _ _, HL.out.1.emp, by simp [b2n]⟩
    case hAx =>
     rintro Wz x a' _ X Y row ⟨g, rfl, k1, k2, k3⟩ hg hr
     refine ⟨g, rfl, ownBlk k1 hg (fun r e => (hr r e).2), k2, k3.trans ⟨hg.block o (by have := k1.lt; omega) (fun e => by have := (hr _ e.symm).1; omega), fun h0 p hp => hg.block p.block (by have := H6.out.2.2.2.2.2.1 p h0 hp; have := k1.lt; omega) (fun e => by have := (hr _ e.symm).1; have := H6.out.2.2.2.2.2.1 p h0 hp; omega)⟩⟩
    case assign =>
     rintro lv pre x X K ⟨l', c', h1, h2, h3, h4, h5, h6⟩ hK
     have hz := h4.size
     have hb : Below X.heap.size X (X.alloc (.cells #[.int .i64 x.1.2.frm, .int .i64 x.1.2.inp, .int .i64 x.1.2.out, .int .i64 x.1.2.to] 49)) := (Below.refl _ _).alloc (Nat.le_refl _) _
     have Hb := Lib.hid hb
     clear hb
     unfold bargs
     gi_wp2
     refine hK _ _ ?_ ⟨l', c', h1, h2.below Hb.out h2.lt, h3.below Hb.out h3.lt, h4.trans (Chg.of_below _ Hb.out), h5, h6⟩ ⟨X.heap.size, rfl, Blk.new _ _ _, hz, keepB_chg (S := fun _ => False) (Chg.of_below _ Hb.out) (by omega) (fun h => h) (fun p h0 hp => ⟨by have := H6.out.2.2.2.2.2.1 p h0 hp; omega, fun h => h⟩)⟩
     exact keepsFrom_chg (S := fun _ => False) _ (Chg.of_below _ Hb.out) (fun _ h => h.elim)
    case body =>
     rintro lv pre ⟨⟨ix, s⟩, hs⟩ a' Wz X1 ⟨l1, c1, h1, h2, h3, h4, h5, h6⟩ ⟨g, rfl, k1, k2, k3⟩ hlt1
     dsimp only at k1 ⊢
     have hsa : s ∈ M.arcs := List.mem_of_getElem? (H6.out.2.2.2.2.2.2.1 _ hs)
     obtain ⟨vf, vt, vi, vo⟩ := Hv.out.arcs s hsa
     unfold StateOk at vf vt
     obtain ⟨fN, hfN⟩ : ∃ k : Nat, s.frm = k := ⟨s.frm.toNat, by omega⟩
     obtain ⟨tN, htN⟩ : ∃ k : Nat, s.to = k := ⟨s.to.toNat, by omega⟩
     have hf1 : fN < n := by have := Hn.out; omega
     have ht1 : tN < n := by have := Hn.out; omega
     have hl1 : l1.length = n := by have := h1.len; have := Hn.out; omega
     obtain ⟨old, hold⟩ : ∃ b, l1[fN]? = some b := ⟨l1[fN]'(by omega), List.getElem?_eq_getElem _⟩
     obtain ⟨rest, hrest⟩ : ∃ b, l1[tN]? = some b := ⟨l1[tN]'(by omega), List.getElem?_eq_getElem _⟩
     obtain ⟨o0, o1, o2⟩ := ends_get hold
     obtain ⟨p0, p1, p2⟩ := ends_get hrest
     have hz4 := h4.size
     have hF : ∀ w', Below X1.heap.size X1 w' → (w'.cell? ⟨bb + 1, 0, none⟩ = some (.slice (some ⟨bb, 0, none⟩) n n) ∧ w'.cell? ⟨g, 0, none⟩ = some (.int .i64 fN) ∧ w'.cell? ⟨g, 1, none⟩ = some (.int .i64 s.inp) ∧ w'.cell? ⟨g, 2, none⟩ = some (.int .i64 s.out) ∧ w'.cell? ⟨g, 3, none⟩ = some (.int .i64 tN) ∧ w'.cell? ⟨bb, fN * 3, none⟩ = some (.string (bstr old.x)) ∧ w'.cell? ⟨bb, fN * 3 + 1, none⟩ = some (.string (bstr old.y)) ∧ w'.cell? ⟨bb, fN * 3 + 2, none⟩ = some (.bool old.is) ∧ w'.cell? ⟨bb, tN * 3, none⟩ = some (.string (bstr rest.x)) ∧ w'.cell? ⟨bb, tN * 3 + 1, none⟩ = some (.string (bstr rest.y)) ∧ w'.cell? ⟨bb, tN * 3 + 2, none⟩ = some (.bool rest.is)) := fun w' hb => by
      have e0 : X1.cell? ⟨bb + 1, 0, none⟩ = some (.slice (some ⟨bb, 0, none⟩) n n) := (H5.out.1.chg (H6.out.2.1.trans_if h4 (fun k hk hkl => by rcases hk with h | h; exact .inl h; right; omega)) (by omega)).cell 0
      have e1 : X1.cell? ⟨g, 0, none⟩ = some (.int .i64 fN) := by rw [← hfN]; exact k1.cell 0
      have e2 : X1.cell? ⟨g, 1, none⟩ = some (.int .i64 s.inp) := k1.cell 1
      have e3 : X1.cell? ⟨g, 2, none⟩ = some (.int .i64 s.out) := k1.cell 2
      have e4 : X1.cell? ⟨g, 3, none⟩ = some (.int .i64 tN) := by rw [← htN]; exact k1.cell 3
      have bc : ∀ (p : Addr) (v : Value), X1.cell? p = some v → w'.cell? p = some v := fun p v h => (hb.cell (p := p) (World.block_lt_of_cell? X1 p h)).trans h
      exact ⟨bc _ _ e0, bc _ _ e1, bc _ _ e2, bc _ _ e3, bc _ _ e4, bc _ _ ((h2.cell _).trans (by simpa using o0)), bc _ _ ((h2.cell _).trans (by simpa using o1)), bc _ _ ((h2.cell _).trans (by simpa using o2)), bc _ _ ((h2.cell _).trans (by simpa using p0)), bc _ _ ((h2.cell _).trans (by simpa using p1)), bc _ _ ((h2.cell _).trans (by simpa using p2))⟩
     have HF := Lib.hid hF
     have HX := Lib.hid (And.intro h1 (And.intro h2 (And.intro h3 (And.intro h4 (And.intro h5 (And.intro h6 (And.intro k1 (And.intro k3 (And.intro hold (And.intro hrest (And.intro hfN htN)))))))))))
     have Hs := Lib.hid (And.intro hsa (And.intro vi vo))
     have hg5 : o < g := by omega
     have hgl := k1.lt
     clear hF h1 h2 h3 h4 h5 h6 k1 k3 o0 o1 o2 p0 p1 p2 hold hrest hfN htN hsa vi vo vf vt hlt1 hs HRel
     gi_wp2
     refine wpIn_cut (fun a X2 => ∃ (u : Nat → Value) (g1 g2 : Nat), a = { tmps := (List.toArray (α := Value) (.agg #[.int .i64 M.states, .int .i64 M.start, .slice fa M.final.length fc, .slice aa M.arcs.length ac] :: .pointer (some ⟨w.heap.size, 0, none⟩) :: .string ⟨#[]⟩ :: .string ⟨#[]⟩ :: .bool false :: .int .i64 0 :: .pointer (some ⟨bb + 1, 0, none⟩) :: u 7 :: u 8 :: .pointer (some ⟨cb, 0, none⟩) :: u 10 :: .pointer (some ⟨g, 0, none⟩) :: .pointer (some ⟨g1, 0, none⟩) :: .pointer (some ⟨g2, 0, none⟩) :: u 14 :: u 15 :: u 16 :: u 17 :: u 18 :: u 19 :: u 20 :: u 21 :: u 22 :: u 23 :: u 24 :: u 25 :: u 26 :: u 27 :: u 28 :: u 29 :: u 30 :: u 31 :: u 32 :: u 33 :: u 34 :: u 35 :: u 36 :: u 37 :: u 38 :: u 39 :: u 40 :: u 41 :: u 42 :: u 43 :: u 44 :: u 45 :: u 46 :: u 47 :: u 48 :: u 49 :: u 50 :: u 51 :: u 52 :: u 53 :: u 54 :: u 55 :: u 56 :: u 57 :: u 58 :: u 59 :: u 60 :: u 61 :: u 62 :: u 63 :: u 64 :: u 65 :: u 66 :: u 67 :: u 68 :: u 69 :: u 70 :: u 71 :: u 72 :: u 73 :: u 74 :: u 75 :: u 76 :: u 77 :: u 78 :: u 79 :: u 80 :: u 81 :: u 82 :: u 83 :: u 84 :: u 85 :: u 86 :: u 87 :: u 88 :: u 89 :: u 90 :: u 91 :: u 92 :: u 93 :: u 94 :: u 95 :: u 96 :: u 97 :: u 98 :: u 99 :: u 100 :: u 101 :: u 102 :: u 103 :: u 104 :: u 105 :: [])), defers := [] } ∧ Blk X2 g1 #[.string (bstr old.x), .string (bstr old.y), .bool old.is] 84 ∧ Blk X2 g2 #[.string (bstr rest.x), .string (bstr rest.y), .bool rest.is] 84 ∧ Below X1.heap.size X1 X2 ∧ X1.heap.size ≤ g1 ∧ X1.heap.size ≤ g2) ?_ ?_
     ·obtain ⟨Z, hZ⟩ : ∃ Z, X1.heap.size = Z := ⟨_, rfl⟩
      have HZ := Lib.hid hZ
      have HJ : ∀ (T : Array Value) (X2 : World) (g1 g2 : Nat), T = (fun u : Nat → Value => (List.toArray (α := Value) (.agg #[.int .i64 M.states, .int .i64 M.start, .slice fa M.final.length fc, .slice aa M.arcs.length ac] :: .pointer (some ⟨w.heap.size, 0, none⟩) :: .string ⟨#[]⟩ :: .string ⟨#[]⟩ :: .bool false :: .int .i64 0 :: .pointer (some ⟨bb + 1, 0, none⟩) :: u 7 :: u 8 :: .pointer (some ⟨cb, 0, none⟩) :: u 10 :: .pointer (some ⟨g, 0, none⟩) :: .pointer (some ⟨g1, 0, none⟩) :: .pointer (some ⟨g2, 0, none⟩) :: u 14 :: u 15 :: u 16 :: u 17 :: u 18 :: u 19 :: u 20 :: u 21 :: u 22 :: u 23 :: u 24 :: u 25 :: u 26 :: u 27 :: u 28 :: u 29 :: u 30 :: u 31 :: u 32 :: u 33 :: u 34 :: u 35 :: u 36 :: u 37 :: u 38 :: u 39 :: u 40 :: u 41 :: u 42 :: u 43 :: u 44 :: u 45 :: u 46 :: u 47 :: u 48 :: u 49 :: u 50 :: u 51 :: u 52 :: u 53 :: u 54 :: u 55 :: u 56 :: u 57 :: u 58 :: u 59 :: u 60 :: u 61 :: u 62 :: u 63 :: u 64 :: u 65 :: u 66 :: u 67 :: u 68 :: u 69 :: u 70 :: u 71 :: u 72 :: u 73 :: u 74 :: u 75 :: u 76 :: u 77 :: u 78 :: u 79 :: u 80 :: u 81 :: u 82 :: u 83 :: u 84 :: u 85 :: u 86 :: u 87 :: u 88 :: u 89 :: u 90 :: u 91 :: u 92 :: u 93 :: u 94 :: u 95 :: u 96 :: u 97 :: u 98 :: u 99 :: u 100 :: u 101 :: u 102 :: u 103 :: u 104 :: u 105 :: []))) (fun k => T[k]?.getD undef) → Blk X2 g1 #[.string (bstr old.x), .string (bstr old.y), .bool old.is] 84 → Blk X2 g2 #[.string (bstr rest.x), .string (bstr rest.y), .bool rest.is] 84 → Below X1.heap.size X1 X2 → X1.heap.size ≤ g1 → X1.heap.size ≤ g2 →
        ∃ (u : Nat → Value) (g1 g2 : Nat), ({ tmps := T, defers := [] } : Act) = { tmps := (List.toArray (α := Value) (.agg #[.int .i64 M.states, .int .i64 M.start, .slice fa M.final.length fc, .slice aa M.arcs.length ac] :: .pointer (some ⟨w.heap.size, 0, none⟩) :: .string ⟨#[]⟩ :: .string ⟨#[]⟩ :: .bool false :: .int .i64 0 :: .pointer (some ⟨bb + 1, 0, none⟩) :: u 7 :: u 8 :: .pointer (some ⟨cb, 0, none⟩) :: u 10 :: .pointer (some ⟨g, 0, none⟩) :: .pointer (some ⟨g1, 0, none⟩) :: .pointer (some ⟨g2, 0, none⟩) :: u 14 :: u 15 :: u 16 :: u 17 :: u 18 :: u 19 :: u 20 :: u 21 :: u 22 :: u 23 :: u 24 :: u 25 :: u 26 :: u 27 :: u 28 :: u 29 :: u 30 :: u 31 :: u 32 :: u 33 :: u 34 :: u 35 :: u 36 :: u 37 :: u 38 :: u 39 :: u 40 :: u 41 :: u 42 :: u 43 :: u 44 :: u 45 :: u 46 :: u 47 :: u 48 :: u 49 :: u 50 :: u 51 :: u 52 :: u 53 :: u 54 :: u 55 :: u 56 :: u 57 :: u 58 :: u 59 :: u 60 :: u 61 :: u 62 :: u 63 :: u 64 :: u 65 :: u 66 :: u 67 :: u 68 :: u 69 :: u 70 :: u 71 :: u 72 :: u 73 :: u 74 :: u 75 :: u 76 :: u 77 :: u 78 :: u 79 :: u 80 :: u 81 :: u 82 :: u 83 :: u 84 :: u 85 :: u 86 :: u 87 :: u 88 :: u 89 :: u 90 :: u 91 :: u 92 :: u 93 :: u 94 :: u 95 :: u 96 :: u 97 :: u 98 :: u 99 :: u 100 :: u 101 :: u 102 :: u 103 :: u 104 :: u 105 :: [])), defers := [] } ∧ Blk X2 g1 #[.string (bstr old.x), .string (bstr old.y), .bool old.is] 84 ∧ Blk X2 g2 #[.string (bstr rest.x), .string (bstr rest.y), .bool rest.is] 84 ∧ Below X1.heap.size X1 X2 ∧ X1.heap.size ≤ g1 ∧ X1.heap.size ≤ g2 :=
       fun T X2 g1 g2 hT q1 q2 q3 q4 q5 => ⟨fun k => T[k]?.getD undef, g1, g2, congrArg (fun t => ({ tmps := t, defers := [] } : Act)) hT, q1, q2, q3, q4, q5⟩
      have HJ := Lib.hid HJ
      refine wpIn_region_held (S := fun w' => Below X1.heap.size X1 w') (by kernel_rfl) (by kernel_rfl) (by rintro ⟨_, _, h⟩; exact h) ?_
      have hS : Below X1.heap.size X1 X1.drew := (Below.refl _ _).drew
      refine wpAnyH_take (i := 0) (v := .slice (some ⟨bb, 0, none⟩) n n) rfl (by kernel_rfl) (by kernel_rfl) (by kernel_rfl) (fun _ _ _ h => h) (Or.inl ⟨by rfl, ?_⟩) (by assumption) ?_
      ·intro w' hb
       obtain ⟨s0, s1, s2, s3, s4, s5, s6, s7, s8, s9, sa⟩ := HF.out w' hb
       go_simp
      try simp only [Act.put, List.setIfInBounds_toArray]
      refine wpAnyH_take (i := 1) (v := .pointer (some ⟨g, 0, none⟩)) rfl (by kernel_rfl) (by kernel_rfl) (by kernel_rfl) (fun _ _ _ h => h) (Or.inl ⟨by rfl, ?_⟩) (by assumption) ?_
      ·intro w' hb
       obtain ⟨s0, s1, s2, s3, s4, s5, s6, s7, s8, s9, sa⟩ := HF.out w' hb
       go_simp
      try simp only [Act.put]
      refine wpAnyH_take (i := 2) (v := .int .i64 fN) rfl (by kernel_rfl) (by kernel_rfl) (by kernel_rfl) (fun _ _ _ h => h) (Or.inl ⟨by rfl, ?_⟩) (by assumption) ?_
      ·intro w' hb
       obtain ⟨s0, s1, s2, s3, s4, s5, s6, s7, s8, s9, sa⟩ := HF.out w' hb
       go_simp
      try simp only [Act.put]
      refine wpAnyH_take (i := 3) (v := .pointer (some ⟨bb, fN * 3, none⟩)) rfl (by kernel_rfl) (by kernel_rfl) (by kernel_rfl) (fun _ _ _ h => h) (Or.inl ⟨by rfl, ?_⟩) (by assumption) ?_
      ·intro w' hb
       obtain ⟨s0, s1, s2, s3, s4, s5, s6, s7, s8, s9, sa⟩ := HF.out w' hb
       go_simp
      try simp only [Act.put]
      refine wpAnyH_take (i := 4) (v := .agg #[.string (bstr old.x), .string (bstr old.y), .bool old.is]) rfl (by kernel_rfl) (by kernel_rfl) (by kernel_rfl) (fun _ _ _ h => h) (Or.inl ⟨by rfl, ?_⟩) (by assumption) ?_
      ·intro w' hb
       obtain ⟨s0, s1, s2, s3, s4, s5, s6, s7, s8, s9, sa⟩ := HF.out w' hb
       go_simp
      try simp only [Act.put]
      refine wpAnyH_take (i := 5) (v := .slice (some ⟨bb, 0, none⟩) n n) rfl (by kernel_rfl) (by kernel_rfl) (by kernel_rfl) (fun _ _ _ h => h) (Or.inl ⟨by rfl, ?_⟩) (by assumption) ?_
      ·intro w' hb
       obtain ⟨s0, s1, s2, s3, s4, s5, s6, s7, s8, s9, sa⟩ := HF.out w' hb
       go_simp
      try simp only [Act.put]
      refine wpAnyH_take (i := 6) (v := .pointer (some ⟨g, 3, none⟩)) rfl (by kernel_rfl) (by kernel_rfl) (by kernel_rfl) (fun _ _ _ h => h) (Or.inl ⟨by rfl, ?_⟩) (by assumption) ?_
      ·intro w' hb
       obtain ⟨s0, s1, s2, s3, s4, s5, s6, s7, s8, s9, sa⟩ := HF.out w' hb
       go_simp
      try simp only [Act.put]
      refine wpAnyH_take (i := 7) (v := .int .i64 tN) rfl (by kernel_rfl) (by kernel_rfl) (by kernel_rfl) (fun _ _ _ h => h) (Or.inl ⟨by rfl, ?_⟩) (by assumption) ?_
      ·intro w' hb
       obtain ⟨s0, s1, s2, s3, s4, s5, s6, s7, s8, s9, sa⟩ := HF.out w' hb
       go_simp
      try simp only [Act.put]
      refine wpAnyH_take (i := 8) (v := .pointer (some ⟨bb, tN * 3, none⟩)) rfl (by kernel_rfl) (by kernel_rfl) (by kernel_rfl) (fun _ _ _ h => h) (Or.inl ⟨by rfl, ?_⟩) (by assumption) ?_
      ·intro w' hb
       obtain ⟨s0, s1, s2, s3, s4, s5, s6, s7, s8, s9, sa⟩ := HF.out w' hb
       go_simp
      try simp only [Act.put]
      refine wpAnyH_take (i := 9) (v := .agg #[.string (bstr rest.x), .string (bstr rest.y), .bool rest.is]) rfl (by kernel_rfl) (by kernel_rfl) (by kernel_rfl) (fun _ _ _ h => h) (Or.inl ⟨by rfl, ?_⟩) (by assumption) ?_
      ·intro w' hb
       obtain ⟨s0, s1, s2, s3, s4, s5, s6, s7, s8, s9, sa⟩ := HF.out w' hb
       go_simp
      try simp only [Act.put]
      refine wpAnyH_ready (rs := [10, 11]) (by kernel_rfl) (by simp) (AllReadyH.cons (i := 10) rfl (fun K hK => ?_) (AllReadyH.cons (i := 11) rfl (fun K hK => ?_) AllReadyH.nil))
      ·simp only [Act.put, List.getElem_toArray, List.getElem_cons_succ, List.getElem_cons_zero, List.setIfInBounds_toArray, List.set_cons_zero, List.set_cons_succ]
       go_simp
       refine hK.out _ _ (((Below.refl _ _).alloc (Nat.le_refl _) _).drew) (fun _ => ?_)
       clear hK K
       refine wpAnyH_ready (rs := [11]) (by kernel_rfl) (by simp) (AllReadyH.cons (i := 11) rfl (fun K hK => ?_) AllReadyH.nil)
       simp only [Act.put, List.getElem_toArray, List.getElem_cons_succ, List.getElem_cons_zero, List.setIfInBounds_toArray, List.set_cons_zero, List.set_cons_succ]
       go_simp
       obtain ⟨X, hX⟩ : ∃ X : World, X = ((X1.alloc (.cells #[.string ⟨#[]⟩, .string ⟨#[]⟩, .bool false] 84)).alloc (.cells #[.string ⟨#[]⟩, .string ⟨#[]⟩, .bool false] 84)).drew := ⟨_, rfl⟩
       obtain ⟨g1, hg1⟩ : ∃ g1, g1 = Z := ⟨_, rfl⟩
       obtain ⟨g2, hg2⟩ : ∃ g2, g2 = Z + 1 := ⟨_, rfl⟩
       rw [← hX, ← hg2, ← hg1]
       have hbX : Below X1.heap.size X1 X := by rw [hX]; exact (((Below.refl _ _).alloc (Nat.le_refl _) _).alloc (by simp) _).drew
       have kg1 : Blk X g1 #[.string ⟨#[]⟩, .string ⟨#[]⟩, .bool false] 84 := by rw [hX, hg1]; exact (two_new6 HZ.out _ _).1
       have kg2 : Blk X g2 #[.string ⟨#[]⟩, .string ⟨#[]⟩, .bool false] 84 := by rw [hX, hg2]; exact (two_new6 HZ.out _ _).2
       have hg12 : g2 ≠ g1 := by omega
       have hl1 : X1.heap.size ≤ g1 := by have := HZ.out; omega
       have hl2 : X1.heap.size ≤ g2 := by have := HZ.out; omega
       refine hK.out _ _ hbX (fun _ => ?_)
       clear hK K hg1 hg2 hX
       have x0 : X.cell? ⟨g1, 0, none⟩ = some (.string ⟨#[]⟩) := kg1.cell 0
       have x1 : X.cell? ⟨g1, 1, none⟩ = some (.string ⟨#[]⟩) := kg1.cell 1
       have x2 : X.cell? ⟨g1, 2, none⟩ = some (.bool false) := kg1.cell 2
       have fx : ∀ j, X.frozen? ⟨g1, j, none⟩ = false := fun j => kg1.frozen j
       refine wpAnyH_ready (rs := [12]) (by kernel_rfl) (by simp) (AllReadyH.cons (i := 12) rfl (fun K hK => ?_) AllReadyH.nil)
       simp only [Act.put, List.getElem_toArray, List.getElem_cons_succ, List.getElem_cons_zero]
       go_simp
       refine hK.out _ _ (below3 hbX hl1 _ _ _) (fun _ => ?_)
       clear hK K x0 x1 x2 fx
       obtain ⟨Y, hY⟩ : ∃ Y : World, Y = ((X.setCell ⟨g1, 0, none⟩ (.string (bstr old.x))).setCell ⟨g1, 1, none⟩ (.string (bstr old.y))).setCell ⟨g1, 2, none⟩ (.bool old.is) := ⟨_, rfl⟩
       rw [← hY]
       have kg1 : Blk Y g1 #[.string (bstr old.x), .string (bstr old.y), .bool old.is] 84 := by rw [hY]; exact fill3 kg1 _ _ _
       have kg2 : Blk Y g2 #[.string ⟨#[]⟩, .string ⟨#[]⟩, .bool false] 84 := by rw [hY]; exact far3 kg2 hg12 _ _ _
       have hbY : Below X1.heap.size X1 Y := by rw [hY]; exact below3 hbX hl1 _ _ _
       have x0 : Y.cell? ⟨g2, 0, none⟩ = some (.string ⟨#[]⟩) := kg2.cell 0
       have x1 : Y.cell? ⟨g2, 1, none⟩ = some (.string ⟨#[]⟩) := kg2.cell 1
       have x2 : Y.cell? ⟨g2, 2, none⟩ = some (.bool false) := kg2.cell 2
       have fx : ∀ j, Y.frozen? ⟨g2, j, none⟩ = false := fun j => kg2.frozen j
       clear hY
       refine wpAnyH_ready (rs := [13]) (by kernel_rfl) (by simp) (AllReadyH.cons (i := 13) rfl (fun K hK => ?_) AllReadyH.nil)
       simp only [Act.put, List.getElem_toArray, List.getElem_cons_succ, List.getElem_cons_zero]
       go_simp
       refine hK.out _ _ (below3 hbY hl2 _ _ _) (fun _ => ?_)
       clear hK K x0 x1 x2 fx
       refine wpAnyH_done (by kernel_rfl) ?_ _
       exact HJ.out _ _ g1 g2 rfl (far3 kg1 (fun e => hg12 e.symm) _ _ _) (fill3 kg2 _ _ _) (below3 hbY hl2 _ _ _) hl1 hl2
      ·simp only [Act.put, List.getElem_toArray, List.getElem_cons_succ, List.getElem_cons_zero, List.setIfInBounds_toArray, List.set_cons_zero, List.set_cons_succ]
       go_simp
       refine hK.out _ _ (((Below.refl _ _).alloc (Nat.le_refl _) _).drew) (fun _ => ?_)
       clear hK K
       refine wpAnyH_ready (rs := [10]) (by kernel_rfl) (by simp) (AllReadyH.cons (i := 10) rfl (fun K hK => ?_) AllReadyH.nil)
       simp only [Act.put, List.getElem_toArray, List.getElem_cons_succ, List.getElem_cons_zero, List.setIfInBounds_toArray, List.set_cons_zero, List.set_cons_succ]
       go_simp
       obtain ⟨X, hX⟩ : ∃ X : World, X = ((X1.alloc (.cells #[.string ⟨#[]⟩, .string ⟨#[]⟩, .bool false] 84)).alloc (.cells #[.string ⟨#[]⟩, .string ⟨#[]⟩, .bool false] 84)).drew := ⟨_, rfl⟩
       obtain ⟨g1, hg1⟩ : ∃ g1, g1 = Z + 1 := ⟨_, rfl⟩
       obtain ⟨g2, hg2⟩ : ∃ g2, g2 = Z := ⟨_, rfl⟩
       rw [← hX, ← hg1, ← hg2]
       have hbX : Below X1.heap.size X1 X := by rw [hX]; exact (((Below.refl _ _).alloc (Nat.le_refl _) _).alloc (by simp) _).drew
       have kg1 : Blk X g1 #[.string ⟨#[]⟩, .string ⟨#[]⟩, .bool false] 84 := by rw [hX, hg1]; exact (two_new6 HZ.out _ _).2
       have kg2 : Blk X g2 #[.string ⟨#[]⟩, .string ⟨#[]⟩, .bool false] 84 := by rw [hX, hg2]; exact (two_new6 HZ.out _ _).1
       have hg12 : g2 ≠ g1 := by omega
       have hl1 : X1.heap.size ≤ g1 := by have := HZ.out; omega
       have hl2 : X1.heap.size ≤ g2 := by have := HZ.out; omega
       refine hK.out _ _ hbX (fun _ => ?_)
       clear hK K hg1 hg2 hX
       have x0 : X.cell? ⟨g1, 0, none⟩ = some (.string ⟨#[]⟩) := kg1.cell 0
       have x1 : X.cell? ⟨g1, 1, none⟩ = some (.string ⟨#[]⟩) := kg1.cell 1
       have x2 : X.cell? ⟨g1, 2, none⟩ = some (.bool false) := kg1.cell 2
       have fx : ∀ j, X.frozen? ⟨g1, j, none⟩ = false := fun j => kg1.frozen j
       refine wpAnyH_ready (rs := [12]) (by kernel_rfl) (by simp) (AllReadyH.cons (i := 12) rfl (fun K hK => ?_) AllReadyH.nil)
       simp only [Act.put, List.getElem_toArray, List.getElem_cons_succ, List.getElem_cons_zero]
       go_simp
       refine hK.out _ _ (below3 hbX hl1 _ _ _) (fun _ => ?_)
       clear hK K x0 x1 x2 fx
       obtain ⟨Y, hY⟩ : ∃ Y : World, Y = ((X.setCell ⟨g1, 0, none⟩ (.string (bstr old.x))).setCell ⟨g1, 1, none⟩ (.string (bstr old.y))).setCell ⟨g1, 2, none⟩ (.bool old.is) := ⟨_, rfl⟩
       rw [← hY]
       have kg1 : Blk Y g1 #[.string (bstr old.x), .string (bstr old.y), .bool old.is] 84 := by rw [hY]; exact fill3 kg1 _ _ _
       have kg2 : Blk Y g2 #[.string ⟨#[]⟩, .string ⟨#[]⟩, .bool false] 84 := by rw [hY]; exact far3 kg2 hg12 _ _ _
       have hbY : Below X1.heap.size X1 Y := by rw [hY]; exact below3 hbX hl1 _ _ _
       have x0 : Y.cell? ⟨g2, 0, none⟩ = some (.string ⟨#[]⟩) := kg2.cell 0
       have x1 : Y.cell? ⟨g2, 1, none⟩ = some (.string ⟨#[]⟩) := kg2.cell 1
       have x2 : Y.cell? ⟨g2, 2, none⟩ = some (.bool false) := kg2.cell 2
       have fx : ∀ j, Y.frozen? ⟨g2, j, none⟩ = false := fun j => kg2.frozen j
       clear hY
       refine wpAnyH_ready (rs := [13]) (by kernel_rfl) (by simp) (AllReadyH.cons (i := 13) rfl (fun K hK => ?_) AllReadyH.nil)
       simp only [Act.put, List.getElem_toArray, List.getElem_cons_succ, List.getElem_cons_zero]
       go_simp
       refine hK.out _ _ (below3 hbY hl2 _ _ _) (fun _ => ?_)
       clear hK K x0 x1 x2 fx
       refine wpAnyH_done (by kernel_rfl) ?_ _
       exact HJ.out _ _ g1 g2 rfl (far3 kg1 (fun e => hg12 e.symm) _ _ _) (fill3 kg2 _ _ _) (below3 hbY hl2 _ _ _) hl1 hl2
     ·rintro a X2 ⟨u, g1, g2, rfl, kg1, kg2, hb2, hl1', hl2'⟩
      have hszs : ∀ (k : Nat) b, l1[k]? = some b → b.x.length ≤ 4000 ∧ b.y.length ≤ 4000 := fun k b hk => by
       cases hbi : b.is with
       | true => have := HX.out.1.short hk hbi; omega
       | false => obtain ⟨q1, q2⟩ := HX.out.2.2.2.2.1 k b hk hbi; rw [q1, q2]; simp
      obtain ⟨A1, hA1⟩ : ∃ A1, A1 = afterB ⟨#[]⟩ s.inp := ⟨_, rfl⟩
      obtain ⟨A2, hA2⟩ : ∃ A2, A2 = afterB ⟨#[]⟩ s.out := ⟨_, rfl⟩
      have ha1 : A1.size ≤ 1 := by rw [hA1]; exact afterB_size _ _
      have ha2 : A2.size ≤ 1 := by rw [hA2]; exact afterB_size _ _
      have hr1 : (bstr rest.x).size ≤ 4000 := by rw [← bl_length, bl_bstr]; exact (hszs _ _ HX.out.2.2.2.2.2.2.2.2.2.1).1
      have hr2 : (bstr rest.y).size ≤ 4000 := by rw [← bl_length, bl_bstr]; exact (hszs _ _ HX.out.2.2.2.2.2.2.2.2.2.1).2
      have hq1 : (bstr old.x).size ≤ 4000 := by rw [← bl_length, bl_bstr]; exact (hszs _ _ HX.out.2.2.2.2.2.2.2.2.1).1
      have hq2 : (bstr old.y).size ≤ 4000 := by rw [← bl_length, bl_bstr]; exact (hszs _ _ HX.out.2.2.2.2.2.2.2.2.1).2
      have hadd1 : ∀ W, (Op.stringOp .add A1 (bstr rest.x)).run Tryz.prog W = .ok (.string (A1 ++ bstr rest.x)) W := fun W => by first | exact run_string_add W _ _ (by omega) (by omega) | exact run_string_add _ _ (by omega) (by omega)
      have hadd2 : ∀ W, (Op.stringOp .add A2 (bstr rest.y)).run Tryz.prog W = .ok (.string (A2 ++ bstr rest.y)) W := fun W => by first | exact run_string_add W _ _ (by omega) (by omega) | exact run_string_add _ _ (by omega) (by omega)
      have hx1 : (A1 ++ bstr rest.x).size ≤ 4001 := by rw [ByteArray.size_append]; omega
      have hx2 : (A2 ++ bstr rest.y).size ≤ 4001 := by rw [ByteArray.size_append]; omega
      have HC1 := Lib.hid (fun W => after_any ⟨#[]⟩ s.inp Hs.out.2.1 (by decide) W)
      have HC2 := Lib.hid (fun W => after_any ⟨#[]⟩ s.out Hs.out.2.2 (by decide) W)
      rw [← hA1] at HC1
      rw [← hA2] at HC2
      have HA := Lib.hid (And.intro hA1 hA2)
      have hgk := (HX.out.2.2.2.2.2.2.1).below hb2 HX.out.2.2.2.2.2.2.1.lt
      have hF : ∀ w', Below X2.heap.size X2 w' → (w'.cell? ⟨g, 1, none⟩ = some (.int .i64 s.inp) ∧ w'.cell? ⟨g, 2, none⟩ = some (.int .i64 s.out) ∧ w'.cell? ⟨g2, 0, none⟩ = some (.string (bstr rest.x)) ∧ w'.cell? ⟨g2, 1, none⟩ = some (.string (bstr rest.y)) ∧ w'.cell? ⟨g2, 2, none⟩ = some (.bool rest.is) ∧ w'.cell? ⟨g1, 0, none⟩ = some (.string (bstr old.x)) ∧ w'.cell? ⟨g1, 1, none⟩ = some (.string (bstr old.y)) ∧ w'.cell? ⟨g1, 2, none⟩ = some (.bool old.is)) := fun w' hb =>
       ⟨(hgk.below hb hgk.lt).cell 1, (hgk.below hb hgk.lt).cell 2, (kg2.below hb kg2.lt).cell 0, (kg2.below hb kg2.lt).cell 1, (kg2.below hb kg2.lt).cell 2, (kg1.below hb kg1.lt).cell 0, (kg1.below hb kg1.lt).cell 1, (kg1.below hb kg1.lt).cell 2⟩
      have HF2 := Lib.hid hF
      have HG := Lib.hid (And.intro kg1 (And.intro kg2 hb2))
      clear HF
      have HF := HF2
      clear hszs hgk hF kg1 kg2 hb2 hA1 hA2 HF2
      gi_wp2
      refine wpIn_cut (fun a X3 => ∃ (u : Nat → Value), a = { tmps := (List.toArray (α := Value) (.agg #[.int .i64 M.states, .int .i64 M.start, .slice fa M.final.length fc, .slice aa M.arcs.length ac] :: .pointer (some ⟨w.heap.size, 0, none⟩) :: .string ⟨#[]⟩ :: .string ⟨#[]⟩ :: .bool false :: .int .i64 0 :: .pointer (some ⟨bb + 1, 0, none⟩) :: u 7 :: u 8 :: .pointer (some ⟨cb, 0, none⟩) :: u 10 :: .pointer (some ⟨g, 0, none⟩) :: .pointer (some ⟨g1, 0, none⟩) :: .pointer (some ⟨g2, 0, none⟩) :: .string (A1 ++ bstr rest.x) :: .string (A2 ++ bstr rest.y) :: u 16 :: u 17 :: u 18 :: u 19 :: u 20 :: u 21 :: u 22 :: u 23 :: u 24 :: u 25 :: u 26 :: u 27 :: u 28 :: u 29 :: u 30 :: u 31 :: u 32 :: u 33 :: u 34 :: u 35 :: u 36 :: u 37 :: u 38 :: u 39 :: u 40 :: u 41 :: u 42 :: u 43 :: u 44 :: u 45 :: u 46 :: u 47 :: u 48 :: u 49 :: u 50 :: u 51 :: u 52 :: u 53 :: u 54 :: u 55 :: u 56 :: u 57 :: u 58 :: u 59 :: u 60 :: u 61 :: u 62 :: u 63 :: u 64 :: u 65 :: u 66 :: u 67 :: u 68 :: u 69 :: u 70 :: u 71 :: u 72 :: u 73 :: u 74 :: u 75 :: u 76 :: u 77 :: u 78 :: u 79 :: u 80 :: u 81 :: u 82 :: u 83 :: u 84 :: u 85 :: u 86 :: u 87 :: u 88 :: u 89 :: u 90 :: u 91 :: u 92 :: u 93 :: u 94 :: u 95 :: u 96 :: u 97 :: u 98 :: u 99 :: u 100 :: u 101 :: u 102 :: u 103 :: u 104 :: u 105 :: [])), defers := [] } ∧ Below X2.heap.size X2 X3) ?_ ?_
      ·have HJ : ∀ (T : Array Value) (X3 : World), T = (fun u : Nat → Value => (List.toArray (α := Value) (.agg #[.int .i64 M.states, .int .i64 M.start, .slice fa M.final.length fc, .slice aa M.arcs.length ac] :: .pointer (some ⟨w.heap.size, 0, none⟩) :: .string ⟨#[]⟩ :: .string ⟨#[]⟩ :: .bool false :: .int .i64 0 :: .pointer (some ⟨bb + 1, 0, none⟩) :: u 7 :: u 8 :: .pointer (some ⟨cb, 0, none⟩) :: u 10 :: .pointer (some ⟨g, 0, none⟩) :: .pointer (some ⟨g1, 0, none⟩) :: .pointer (some ⟨g2, 0, none⟩) :: .string (A1 ++ bstr rest.x) :: .string (A2 ++ bstr rest.y) :: u 16 :: u 17 :: u 18 :: u 19 :: u 20 :: u 21 :: u 22 :: u 23 :: u 24 :: u 25 :: u 26 :: u 27 :: u 28 :: u 29 :: u 30 :: u 31 :: u 32 :: u 33 :: u 34 :: u 35 :: u 36 :: u 37 :: u 38 :: u 39 :: u 40 :: u 41 :: u 42 :: u 43 :: u 44 :: u 45 :: u 46 :: u 47 :: u 48 :: u 49 :: u 50 :: u 51 :: u 52 :: u 53 :: u 54 :: u 55 :: u 56 :: u 57 :: u 58 :: u 59 :: u 60 :: u 61 :: u 62 :: u 63 :: u 64 :: u 65 :: u 66 :: u 67 :: u 68 :: u 69 :: u 70 :: u 71 :: u 72 :: u 73 :: u 74 :: u 75 :: u 76 :: u 77 :: u 78 :: u 79 :: u 80 :: u 81 :: u 82 :: u 83 :: u 84 :: u 85 :: u 86 :: u 87 :: u 88 :: u 89 :: u 90 :: u 91 :: u 92 :: u 93 :: u 94 :: u 95 :: u 96 :: u 97 :: u 98 :: u 99 :: u 100 :: u 101 :: u 102 :: u 103 :: u 104 :: u 105 :: []))) (fun k => T[k]?.getD undef) → Below X2.heap.size X2 X3 → ∃ (u : Nat → Value), ({ tmps := T, defers := [] } : Act) = { tmps := (List.toArray (α := Value) (.agg #[.int .i64 M.states, .int .i64 M.start, .slice fa M.final.length fc, .slice aa M.arcs.length ac] :: .pointer (some ⟨w.heap.size, 0, none⟩) :: .string ⟨#[]⟩ :: .string ⟨#[]⟩ :: .bool false :: .int .i64 0 :: .pointer (some ⟨bb + 1, 0, none⟩) :: u 7 :: u 8 :: .pointer (some ⟨cb, 0, none⟩) :: u 10 :: .pointer (some ⟨g, 0, none⟩) :: .pointer (some ⟨g1, 0, none⟩) :: .pointer (some ⟨g2, 0, none⟩) :: .string (A1 ++ bstr rest.x) :: .string (A2 ++ bstr rest.y) :: u 16 :: u 17 :: u 18 :: u 19 :: u 20 :: u 21 :: u 22 :: u 23 :: u 24 :: u 25 :: u 26 :: u 27 :: u 28 :: u 29 :: u 30 :: u 31 :: u 32 :: u 33 :: u 34 :: u 35 :: u 36 :: u 37 :: u 38 :: u 39 :: u 40 :: u 41 :: u 42 :: u 43 :: u 44 :: u 45 :: u 46 :: u 47 :: u 48 :: u 49 :: u 50 :: u 51 :: u 52 :: u 53 :: u 54 :: u 55 :: u 56 :: u 57 :: u 58 :: u 59 :: u 60 :: u 61 :: u 62 :: u 63 :: u 64 :: u 65 :: u 66 :: u 67 :: u 68 :: u 69 :: u 70 :: u 71 :: u 72 :: u 73 :: u 74 :: u 75 :: u 76 :: u 77 :: u 78 :: u 79 :: u 80 :: u 81 :: u 82 :: u 83 :: u 84 :: u 85 :: u 86 :: u 87 :: u 88 :: u 89 :: u 90 :: u 91 :: u 92 :: u 93 :: u 94 :: u 95 :: u 96 :: u 97 :: u 98 :: u 99 :: u 100 :: u 101 :: u 102 :: u 103 :: u 104 :: u 105 :: [])), defers := [] } ∧ Below X2.heap.size X2 X3 :=
        fun T X3 hT q1 => ⟨fun k => T[k]?.getD undef, congrArg (fun t => ({ tmps := t, defers := [] } : Act)) hT, q1⟩
       have HJ := Lib.hid HJ
       refine wpIn_region_held (S := fun w' => Below X2.heap.size X2 w') (by kernel_rfl) (by kernel_rfl) (by rintro ⟨_, _, h⟩; exact h) ?_
       have hS : Below X2.heap.size X2 X2.drew := (Below.refl _ _).drew
       refine wpAnyH_take (i := 0) (v := .pointer (some ⟨g, 1, none⟩)) rfl (by kernel_rfl) (by kernel_rfl) (by kernel_rfl) (fun _ _ _ h => h) (Or.inl ⟨by rfl, ?_⟩) (by assumption) ?_
       ·intro w' hb
        obtain ⟨s0, s1, s2, s3, s4, s5, s6, s7⟩ := HF.out w' hb
        go_simp
       try simp only [Act.put, List.setIfInBounds_toArray]
       refine wpAnyH_take (i := 1) (v := .int .i64 s.inp) rfl (by kernel_rfl) (by kernel_rfl) (by kernel_rfl) (fun _ _ _ h => h) (Or.inl ⟨by rfl, ?_⟩) (by assumption) ?_
       ·intro w' hb
        obtain ⟨s0, s1, s2, s3, s4, s5, s6, s7⟩ := HF.out w' hb
        go_simp
       try simp only [Act.put]
       refine wpAnyH_take (i := 3) (v := .pointer (some ⟨g2, 0, none⟩)) rfl (by kernel_rfl) (by kernel_rfl) (by kernel_rfl) (fun _ _ _ h => h) (Or.inl ⟨by rfl, ?_⟩) (by assumption) ?_
       ·intro w' hb
        obtain ⟨s0, s1, s2, s3, s4, s5, s6, s7⟩ := HF.out w' hb
        go_simp
       try simp only [Act.put]
       refine wpAnyH_take (i := 4) (v := .string (bstr rest.x)) rfl (by kernel_rfl) (by kernel_rfl) (by kernel_rfl) (fun _ _ _ h => h) (Or.inl ⟨by rfl, ?_⟩) (by assumption) ?_
       ·intro w' hb
        obtain ⟨s0, s1, s2, s3, s4, s5, s6, s7⟩ := HF.out w' hb
        go_simp
       try simp only [Act.put]
       refine wpAnyH_take (i := 6) (v := .pointer (some ⟨g, 2, none⟩)) rfl (by kernel_rfl) (by kernel_rfl) (by kernel_rfl) (fun _ _ _ h => h) (Or.inl ⟨by rfl, ?_⟩) (by assumption) ?_
       ·intro w' hb
        obtain ⟨s0, s1, s2, s3, s4, s5, s6, s7⟩ := HF.out w' hb
        go_simp
       try simp only [Act.put]
       refine wpAnyH_take (i := 7) (v := .int .i64 s.out) rfl (by kernel_rfl) (by kernel_rfl) (by kernel_rfl) (fun _ _ _ h => h) (Or.inl ⟨by rfl, ?_⟩) (by assumption) ?_
       ·intro w' hb
        obtain ⟨s0, s1, s2, s3, s4, s5, s6, s7⟩ := HF.out w' hb
        go_simp
       try simp only [Act.put]
       refine wpAnyH_take (i := 9) (v := .pointer (some ⟨g2, 1, none⟩)) rfl (by kernel_rfl) (by kernel_rfl) (by kernel_rfl) (fun _ _ _ h => h) (Or.inl ⟨by rfl, ?_⟩) (by assumption) ?_
       ·intro w' hb
        obtain ⟨s0, s1, s2, s3, s4, s5, s6, s7⟩ := HF.out w' hb
        go_simp
       try simp only [Act.put]
       refine wpAnyH_take (i := 10) (v := .string (bstr rest.y)) rfl (by kernel_rfl) (by kernel_rfl) (by kernel_rfl) (fun _ _ _ h => h) (Or.inl ⟨by rfl, ?_⟩) (by assumption) ?_
       ·intro w' hb
        obtain ⟨s0, s1, s2, s3, s4, s5, s6, s7⟩ := HF.out w' hb
        go_simp
       try simp only [Act.put]
       refine wpAnyH_ready (rs := [2]) (by kernel_rfl) (by simp) (AllReadyH.cons (i := 2) rfl (fun K hK => ?_) AllReadyH.nil)
       simp only [Act.put, List.getElem_toArray, List.getElem_cons_succ, List.getElem_cons_zero, List.setIfInBounds_toArray, List.set_cons_zero, List.set_cons_succ]
       go_simp
       refine (HC1.out _).mono ?_
       rintro e X4 ⟨rfl, hb4⟩
       have hS4 : Below X2.heap.size X2 X4 := (show Below X2.heap.size X2 X2.drew from hS).trans hb4
       refine hK.out _ _ hS4 (fun _ => ?_)
       clear hK K hb4 hS
       try simp only [Act.put, List.setIfInBounds_toArray, List.set_cons_zero, List.set_cons_succ]
       refine wpAnyH_take (i := 5) (v := .string (A1 ++ bstr rest.x)) rfl (by kernel_rfl) (by kernel_rfl) (by kernel_rfl) (fun _ _ _ h => h) (Or.inl ⟨by rfl, ?_⟩) (by assumption) ?_
       ·intro w' hb
        obtain ⟨s0, s1, s2, s3, s4, s5, s6, s7⟩ := HF.out w' hb
        go_simp
       try simp only [Act.put, List.setIfInBounds_toArray]
       refine wpAnyH_ready (rs := [8]) (by kernel_rfl) (by simp) (AllReadyH.cons (i := 8) rfl (fun K hK => ?_) AllReadyH.nil)
       simp only [Act.put, List.getElem_toArray, List.getElem_cons_succ, List.getElem_cons_zero, List.setIfInBounds_toArray, List.set_cons_zero, List.set_cons_succ]
       go_simp
       refine (HC2.out _).mono ?_
       rintro e X5 ⟨rfl, hb5⟩
       have hS5 : Below X2.heap.size X2 X5 := hS4.trans (hb5.mono hS4.size)
       refine hK.out _ _ hS5 (fun _ => ?_)
       clear hK K hb5 hS4
       try simp only [Act.put, List.setIfInBounds_toArray, List.set_cons_zero, List.set_cons_succ]
       refine wpAnyH_take (i := 11) (v := .string (A2 ++ bstr rest.y)) rfl (by kernel_rfl) (by kernel_rfl) (by kernel_rfl) (fun _ _ _ h => h) (Or.inl ⟨by rfl, ?_⟩) (by assumption) ?_
       ·intro w' hb
        obtain ⟨s0, s1, s2, s3, s4, s5, s6, s7⟩ := HF.out w' hb
        go_simp
       try simp only [Act.put, List.setIfInBounds_toArray]
       refine wpAnyH_take (i := 12) (v := .string (A1 ++ bstr rest.x)) rfl (by kernel_rfl) (by kernel_rfl) (by kernel_rfl) (fun _ _ _ h => h) (Or.inl ⟨by rfl, ?_⟩) (by assumption) ?_
       ·intro w' hb
        obtain ⟨s0, s1, s2, s3, s4, s5, s6, s7⟩ := HF.out w' hb
        go_simp
       try simp only [Act.put]
       refine wpAnyH_take (i := 13) (v := .string (A2 ++ bstr rest.y)) rfl (by kernel_rfl) (by kernel_rfl) (by kernel_rfl) (fun _ _ _ h => h) (Or.inl ⟨by rfl, ?_⟩) (by assumption) ?_
       ·intro w' hb
        obtain ⟨s0, s1, s2, s3, s4, s5, s6, s7⟩ := HF.out w' hb
        go_simp
       try simp only [Act.put]
       refine wpAnyH_done (by kernel_rfl) ?_ _
       exact HJ.out _ _ rfl hS5
      ·rintro a X3 ⟨u, rfl, hb3⟩
       obtain ⟨X, hX⟩ : ∃ X, X = A1 ++ bstr rest.x := ⟨_, rfl⟩
       obtain ⟨Y, hY⟩ : ∃ Y, Y = A2 ++ bstr rest.y := ⟨_, rfl⟩
       rw [← hX] at hx1 ⊢
       rw [← hY] at hx2 ⊢
       obtain ⟨d, hd⟩ : ∃ d : Bool, d = (rest.is && (!old.is || decide (orI [shortS X (bstr old.x), shortS Y (bstr old.y)] < 0))) := ⟨_, rfl⟩
       have HD := Lib.hid (And.intro hX (And.intro hY hd))
       have Hb3 := Lib.hid hb3
       clear hX hY hd hb3 hadd1 hadd2 HC1 HC2
       gi_wp2
       refine wpIn_cut (fun a X4 => ∃ (u : Nat → Value), a = { tmps := (List.toArray (α := Value) (.agg #[.int .i64 M.states, .int .i64 M.start, .slice fa M.final.length fc, .slice aa M.arcs.length ac] :: .pointer (some ⟨w.heap.size, 0, none⟩) :: .string ⟨#[]⟩ :: .string ⟨#[]⟩ :: .bool false :: .int .i64 0 :: .pointer (some ⟨bb + 1, 0, none⟩) :: u 7 :: u 8 :: .pointer (some ⟨cb, 0, none⟩) :: u 10 :: .pointer (some ⟨g, 0, none⟩) :: .pointer (some ⟨g1, 0, none⟩) :: .pointer (some ⟨g2, 0, none⟩) :: .string X :: .string Y :: u 16 :: u 17 :: u 18 :: u 19 :: u 20 :: u 21 :: u 22 :: u 23 :: u 24 :: u 25 :: u 26 :: u 27 :: u 28 :: u 29 :: u 30 :: u 31 :: u 32 :: u 33 :: u 34 :: u 35 :: u 36 :: u 37 :: u 38 :: u 39 :: u 40 :: u 41 :: u 42 :: u 43 :: u 44 :: u 45 :: u 46 :: u 47 :: u 48 :: u 49 :: u 50 :: u 51 :: u 52 :: u 53 :: u 54 :: u 55 :: u 56 :: u 57 :: u 58 :: u 59 :: u 60 :: u 61 :: u 62 :: u 63 :: u 64 :: u 65 :: u 66 :: u 67 :: u 68 :: u 69 :: u 70 :: u 71 :: u 72 :: u 73 :: u 74 :: u 75 :: u 76 :: u 77 :: u 78 :: u 79 :: u 80 :: u 81 :: u 82 :: u 83 :: u 84 :: u 85 :: .bool d :: u 87 :: u 88 :: u 89 :: u 90 :: u 91 :: u 92 :: u 93 :: u 94 :: u 95 :: u 96 :: u 97 :: u 98 :: u 99 :: u 100 :: u 101 :: u 102 :: u 103 :: u 104 :: u 105 :: [])), defers := [] } ∧ Below X2.heap.size X2 X4) ?_ ?_
       ·have HJ : ∀ (T : Array Value) (X4 : World), T = (fun u : Nat → Value => (List.toArray (α := Value) (.agg #[.int .i64 M.states, .int .i64 M.start, .slice fa M.final.length fc, .slice aa M.arcs.length ac] :: .pointer (some ⟨w.heap.size, 0, none⟩) :: .string ⟨#[]⟩ :: .string ⟨#[]⟩ :: .bool false :: .int .i64 0 :: .pointer (some ⟨bb + 1, 0, none⟩) :: u 7 :: u 8 :: .pointer (some ⟨cb, 0, none⟩) :: u 10 :: .pointer (some ⟨g, 0, none⟩) :: .pointer (some ⟨g1, 0, none⟩) :: .pointer (some ⟨g2, 0, none⟩) :: .string X :: .string Y :: u 16 :: u 17 :: u 18 :: u 19 :: u 20 :: u 21 :: u 22 :: u 23 :: u 24 :: u 25 :: u 26 :: u 27 :: u 28 :: u 29 :: u 30 :: u 31 :: u 32 :: u 33 :: u 34 :: u 35 :: u 36 :: u 37 :: u 38 :: u 39 :: u 40 :: u 41 :: u 42 :: u 43 :: u 44 :: u 45 :: u 46 :: u 47 :: u 48 :: u 49 :: u 50 :: u 51 :: u 52 :: u 53 :: u 54 :: u 55 :: u 56 :: u 57 :: u 58 :: u 59 :: u 60 :: u 61 :: u 62 :: u 63 :: u 64 :: u 65 :: u 66 :: u 67 :: u 68 :: u 69 :: u 70 :: u 71 :: u 72 :: u 73 :: u 74 :: u 75 :: u 76 :: u 77 :: u 78 :: u 79 :: u 80 :: u 81 :: u 82 :: u 83 :: u 84 :: u 85 :: .bool d :: u 87 :: u 88 :: u 89 :: u 90 :: u 91 :: u 92 :: u 93 :: u 94 :: u 95 :: u 96 :: u 97 :: u 98 :: u 99 :: u 100 :: u 101 :: u 102 :: u 103 :: u 104 :: u 105 :: []))) (fun k => T[k]?.getD undef) → Below X2.heap.size X2 X4 → ∃ (u : Nat → Value), ({ tmps := T, defers := [] } : Act) = { tmps := (List.toArray (α := Value) (.agg #[.int .i64 M.states, .int .i64 M.start, .slice fa M.final.length fc, .slice aa M.arcs.length ac] :: .pointer (some ⟨w.heap.size, 0, none⟩) :: .string ⟨#[]⟩ :: .string ⟨#[]⟩ :: .bool false :: .int .i64 0 :: .pointer (some ⟨bb + 1, 0, none⟩) :: u 7 :: u 8 :: .pointer (some ⟨cb, 0, none⟩) :: u 10 :: .pointer (some ⟨g, 0, none⟩) :: .pointer (some ⟨g1, 0, none⟩) :: .pointer (some ⟨g2, 0, none⟩) :: .string X :: .string Y :: u 16 :: u 17 :: u 18 :: u 19 :: u 20 :: u 21 :: u 22 :: u 23 :: u 24 :: u 25 :: u 26 :: u 27 :: u 28 :: u 29 :: u 30 :: u 31 :: u 32 :: u 33 :: u 34 :: u 35 :: u 36 :: u 37 :: u 38 :: u 39 :: u 40 :: u 41 :: u 42 :: u 43 :: u 44 :: u 45 :: u 46 :: u 47 :: u 48 :: u 49 :: u 50 :: u 51 :: u 52 :: u 53 :: u 54 :: u 55 :: u 56 :: u 57 :: u 58 :: u 59 :: u 60 :: u 61 :: u 62 :: u 63 :: u 64 :: u 65 :: u 66 :: u 67 :: u 68 :: u 69 :: u 70 :: u 71 :: u 72 :: u 73 :: u 74 :: u 75 :: u 76 :: u 77 :: u 78 :: u 79 :: u 80 :: u 81 :: u 82 :: u 83 :: u 84 :: u 85 :: .bool d :: u 87 :: u 88 :: u 89 :: u 90 :: u 91 :: u 92 :: u 93 :: u 94 :: u 95 :: u 96 :: u 97 :: u 98 :: u 99 :: u 100 :: u 101 :: u 102 :: u 103 :: u 104 :: u 105 :: [])), defers := [] } ∧ Below X2.heap.size X2 X4 :=
         fun T X4 hT q1 => ⟨fun k => T[k]?.getD undef, congrArg (fun t => ({ tmps := t, defers := [] } : Act)) hT, q1⟩
        have HJ := Lib.hid HJ
        have hd := HD.out.2.2
        obtain ⟨ri, hri⟩ : ∃ ri, rest.is = ri := ⟨_, rfl⟩
        obtain ⟨oi, hoi⟩ : ∃ oi, old.is = oi := ⟨_, rfl⟩
        rw [hri, hoi] at HF hd
        have Hd := Lib.hid hd
        clear hd hri hoi
        refine wpIn_region_held (S := fun w' => Below X2.heap.size X2 w') (by kernel_rfl) (by kernel_rfl) (by rintro ⟨_, _, h⟩; exact h) ?_
        have hS : Below X2.heap.size X2 X3.drew := Hb3.out.drew
        cases ri with
        | false =>
         obtain rfl : d = false := by have := Hd.out; simpa using this
         refine wpAnyH_take (i := 0) (v := .pointer (some ⟨g2, 2, none⟩)) (show _ = some ⟨some 67, _, _, _, _, _⟩ from rfl) (by as_aux_lemma => kernel_rfl) (by as_aux_lemma => kernel_rfl) (by as_aux_lemma => kernel_rfl) (fun _ _ _ h => h) (Or.inl ⟨by as_aux_lemma => kernel_rfl, ?_⟩) (by assumption) ?_
         ·intro w' hb
          obtain ⟨s0, s1, s2, s3, s4, s5, s6, s7⟩ := HF.out w' hb
          go_simp
         try simp only [Act.put, List.setIfInBounds_toArray, List.set_cons_zero, List.set_cons_succ]
         refine wpAnyH_take (i := 1) (v := .bool false) (show _ = some ⟨some 68, _, _, _, _, _⟩ from rfl) (by as_aux_lemma => kernel_rfl) (by as_aux_lemma => kernel_rfl) (by as_aux_lemma => kernel_rfl) (fun _ _ _ h => h) (Or.inl ⟨by as_aux_lemma => kernel_rfl, ?_⟩) (by assumption) ?_
         ·intro w' hb
          obtain ⟨s0, s1, s2, s3, s4, s5, s6, s7⟩ := HF.out w' hb
          go_simp
         try simp only [Act.put, List.setIfInBounds_toArray, List.set_cons_zero, List.set_cons_succ]
         refine wpAnyH_take (i := 2) (v := .bool false) (show _ = some ⟨some 69, _, _, _, _, _⟩ from rfl) (by as_aux_lemma => kernel_rfl) (by as_aux_lemma => kernel_rfl) (by as_aux_lemma => kernel_rfl) (fun _ _ _ h => h) (Or.inl ⟨by as_aux_lemma => kernel_rfl, ?_⟩) (by assumption) ?_
         ·intro w' hb
          obtain ⟨s0, s1, s2, s3, s4, s5, s6, s7⟩ := HF.out w' hb
          go_simp
         try simp only [Act.put, List.setIfInBounds_toArray, List.set_cons_zero, List.set_cons_succ]
         refine wpAnyH_take (i := 3) (v := undef) (show _ = some ⟨some 70, _, _, _, _, _⟩ from rfl) (by as_aux_lemma => kernel_rfl) (by as_aux_lemma => kernel_rfl) (by as_aux_lemma => kernel_rfl) (fun _ _ _ h => h) (Or.inr ⟨by as_aux_lemma => kernel_rfl, rfl⟩) (by assumption) ?_
         try simp only [Act.put, List.setIfInBounds_toArray, List.set_cons_zero, List.set_cons_succ]
         refine wpAnyH_take (i := 4) (v := undef) (show _ = some ⟨some 71, _, _, _, _, _⟩ from rfl) (by as_aux_lemma => kernel_rfl) (by as_aux_lemma => kernel_rfl) (by as_aux_lemma => kernel_rfl) (fun _ _ _ h => h) (Or.inr ⟨by as_aux_lemma => kernel_rfl, rfl⟩) (by assumption) ?_
         try simp only [Act.put, List.setIfInBounds_toArray, List.set_cons_zero, List.set_cons_succ]
         refine wpAnyH_take (i := 5) (v := undef) (show _ = some ⟨some 72, _, _, _, _, _⟩ from rfl) (by as_aux_lemma => kernel_rfl) (by as_aux_lemma => kernel_rfl) (by as_aux_lemma => kernel_rfl) (fun _ _ _ h => h) (Or.inr ⟨by as_aux_lemma => kernel_rfl, rfl⟩) (by assumption) ?_
         try simp only [Act.put, List.setIfInBounds_toArray, List.set_cons_zero, List.set_cons_succ]
         refine wpAnyH_take (i := 6) (v := undef) (show _ = some ⟨some 73, _, _, _, _, _⟩ from rfl) (by as_aux_lemma => kernel_rfl) (by as_aux_lemma => kernel_rfl) (by as_aux_lemma => kernel_rfl) (fun _ _ _ h => h) (Or.inr ⟨by as_aux_lemma => kernel_rfl, rfl⟩) (by assumption) ?_
         try simp only [Act.put, List.setIfInBounds_toArray, List.set_cons_zero, List.set_cons_succ]
         refine wpAnyH_take (i := 7) (v := undef) (show _ = some ⟨some 74, _, _, _, _, _⟩ from rfl) (by as_aux_lemma => kernel_rfl) (by as_aux_lemma => kernel_rfl) (by as_aux_lemma => kernel_rfl) (fun _ _ _ h => h) (Or.inr ⟨by as_aux_lemma => kernel_rfl, rfl⟩) (by assumption) ?_
         try simp only [Act.put, List.setIfInBounds_toArray, List.set_cons_zero, List.set_cons_succ]
         refine wpAnyH_take (i := 8) (v := undef) (show _ = some ⟨some 75, _, _, _, _, _⟩ from rfl) (by as_aux_lemma => kernel_rfl) (by as_aux_lemma => kernel_rfl) (by as_aux_lemma => kernel_rfl) (fun _ _ _ h => h) (Or.inr ⟨by as_aux_lemma => kernel_rfl, rfl⟩) (by assumption) ?_
         try simp only [Act.put, List.setIfInBounds_toArray, List.set_cons_zero, List.set_cons_succ]
         refine wpAnyH_take (i := 9) (v := undef) (show _ = some ⟨some 76, _, _, _, _, _⟩ from rfl) (by as_aux_lemma => kernel_rfl) (by as_aux_lemma => kernel_rfl) (by as_aux_lemma => kernel_rfl) (fun _ _ _ h => h) (Or.inr ⟨by as_aux_lemma => kernel_rfl, rfl⟩) (by assumption) ?_
         try simp only [Act.put, List.setIfInBounds_toArray, List.set_cons_zero, List.set_cons_succ]
         refine wpAnyH_take (i := 10) (v := undef) (show _ = some ⟨some 77, _, _, _, _, _⟩ from rfl) (by as_aux_lemma => kernel_rfl) (by as_aux_lemma => kernel_rfl) (by as_aux_lemma => kernel_rfl) (fun _ _ _ h => h) (Or.inr ⟨by as_aux_lemma => kernel_rfl, rfl⟩) (by assumption) ?_
         try simp only [Act.put, List.setIfInBounds_toArray, List.set_cons_zero, List.set_cons_succ]
         refine wpAnyH_take (i := 11) (v := undef) (show _ = some ⟨some 78, _, _, _, _, _⟩ from rfl) (by as_aux_lemma => kernel_rfl) (by as_aux_lemma => kernel_rfl) (by as_aux_lemma => kernel_rfl) (fun _ _ _ h => h) (Or.inr ⟨by as_aux_lemma => kernel_rfl, rfl⟩) (by assumption) ?_
         try simp only [Act.put, List.setIfInBounds_toArray, List.set_cons_zero, List.set_cons_succ]
         refine wpAnyH_take (i := 12) (v := undef) (show _ = some ⟨some 79, _, _, _, _, _⟩ from rfl) (by as_aux_lemma => kernel_rfl) (by as_aux_lemma => kernel_rfl) (by as_aux_lemma => kernel_rfl) (fun _ _ _ h => h) (Or.inr ⟨by as_aux_lemma => kernel_rfl, rfl⟩) (by assumption) ?_
         try simp only [Act.put, List.setIfInBounds_toArray, List.set_cons_zero, List.set_cons_succ]
         refine wpAnyH_take (i := 13) (v := undef) (show _ = some ⟨some 80, _, _, _, _, _⟩ from rfl) (by as_aux_lemma => kernel_rfl) (by as_aux_lemma => kernel_rfl) (by as_aux_lemma => kernel_rfl) (fun _ _ _ h => h) (Or.inr ⟨by as_aux_lemma => kernel_rfl, rfl⟩) (by assumption) ?_
         try simp only [Act.put, List.setIfInBounds_toArray, List.set_cons_zero, List.set_cons_succ]
         refine wpAnyH_take (i := 14) (v := undef) (show _ = some ⟨some 81, _, _, _, _, _⟩ from rfl) (by as_aux_lemma => kernel_rfl) (by as_aux_lemma => kernel_rfl) (by as_aux_lemma => kernel_rfl) (fun _ _ _ h => h) (Or.inr ⟨by as_aux_lemma => kernel_rfl, rfl⟩) (by assumption) ?_
         try simp only [Act.put, List.setIfInBounds_toArray, List.set_cons_zero, List.set_cons_succ]
         refine wpAnyH_take (i := 15) (v := undef) (show _ = some ⟨some 82, _, _, _, _, _⟩ from rfl) (by as_aux_lemma => kernel_rfl) (by as_aux_lemma => kernel_rfl) (by as_aux_lemma => kernel_rfl) (fun _ _ _ h => h) (Or.inr ⟨by as_aux_lemma => kernel_rfl, rfl⟩) (by assumption) ?_
         try simp only [Act.put, List.setIfInBounds_toArray, List.set_cons_zero, List.set_cons_succ]
         refine wpAnyH_take (i := 16) (v := undef) (show _ = some ⟨some 83, _, _, _, _, _⟩ from rfl) (by as_aux_lemma => kernel_rfl) (by as_aux_lemma => kernel_rfl) (by as_aux_lemma => kernel_rfl) (fun _ _ _ h => h) (Or.inr ⟨by as_aux_lemma => kernel_rfl, rfl⟩) (by assumption) ?_
         try simp only [Act.put, List.setIfInBounds_toArray, List.set_cons_zero, List.set_cons_succ]
         refine wpAnyH_take (i := 17) (v := undef) (show _ = some ⟨some 84, _, _, _, _, _⟩ from rfl) (by as_aux_lemma => kernel_rfl) (by as_aux_lemma => kernel_rfl) (by as_aux_lemma => kernel_rfl) (fun _ _ _ h => h) (Or.inr ⟨by as_aux_lemma => kernel_rfl, rfl⟩) (by assumption) ?_
         try simp only [Act.put, List.setIfInBounds_toArray, List.set_cons_zero, List.set_cons_succ]
         refine wpAnyH_take (i := 18) (v := undef) (show _ = some ⟨some 85, _, _, _, _, _⟩ from rfl) (by as_aux_lemma => kernel_rfl) (by as_aux_lemma => kernel_rfl) (by as_aux_lemma => kernel_rfl) (fun _ _ _ h => h) (Or.inr ⟨by as_aux_lemma => kernel_rfl, rfl⟩) (by assumption) ?_
         try simp only [Act.put, List.setIfInBounds_toArray, List.set_cons_zero, List.set_cons_succ]
         refine wpAnyH_take (i := 19) (v := .bool false) (show _ = some ⟨some 86, _, _, _, _, _⟩ from rfl) (by as_aux_lemma => kernel_rfl) (by as_aux_lemma => kernel_rfl) (by as_aux_lemma => kernel_rfl) (fun _ _ _ h => h) (Or.inl ⟨by as_aux_lemma => kernel_rfl, ?_⟩) (by assumption) ?_
         ·intro w' hb
          obtain ⟨s0, s1, s2, s3, s4, s5, s6, s7⟩ := HF.out w' hb
          go_simp
         try simp only [Act.put, List.setIfInBounds_toArray, List.set_cons_zero, List.set_cons_succ]
         refine wpAnyH_done (by as_aux_lemma => kernel_rfl) ?_ _
         exact HJ.out _ _ rfl hS
        | true =>
         cases oi with
         | false =>
          obtain rfl : d = true := by have := Hd.out; simpa using this
          refine wpAnyH_take (i := 0) (v := .pointer (some ⟨g2, 2, none⟩)) (show _ = some ⟨some 67, _, _, _, _, _⟩ from rfl) (by as_aux_lemma => kernel_rfl) (by as_aux_lemma => kernel_rfl) (by as_aux_lemma => kernel_rfl) (fun _ _ _ h => h) (Or.inl ⟨by as_aux_lemma => kernel_rfl, ?_⟩) (by assumption) ?_
          ·intro w' hb
           obtain ⟨s0, s1, s2, s3, s4, s5, s6, s7⟩ := HF.out w' hb
           go_simp
          try simp only [Act.put, List.setIfInBounds_toArray, List.set_cons_zero, List.set_cons_succ]
          refine wpAnyH_take (i := 1) (v := .bool true) (show _ = some ⟨some 68, _, _, _, _, _⟩ from rfl) (by as_aux_lemma => kernel_rfl) (by as_aux_lemma => kernel_rfl) (by as_aux_lemma => kernel_rfl) (fun _ _ _ h => h) (Or.inl ⟨by as_aux_lemma => kernel_rfl, ?_⟩) (by assumption) ?_
          ·intro w' hb
           obtain ⟨s0, s1, s2, s3, s4, s5, s6, s7⟩ := HF.out w' hb
           go_simp
          try simp only [Act.put, List.setIfInBounds_toArray, List.set_cons_zero, List.set_cons_succ]
          refine wpAnyH_take (i := 2) (v := .bool true) (show _ = some ⟨some 69, _, _, _, _, _⟩ from rfl) (by as_aux_lemma => kernel_rfl) (by as_aux_lemma => kernel_rfl) (by as_aux_lemma => kernel_rfl) (fun _ _ _ h => h) (Or.inl ⟨by as_aux_lemma => kernel_rfl, ?_⟩) (by assumption) ?_
          ·intro w' hb
           obtain ⟨s0, s1, s2, s3, s4, s5, s6, s7⟩ := HF.out w' hb
           go_simp
          try simp only [Act.put, List.setIfInBounds_toArray, List.set_cons_zero, List.set_cons_succ]
          refine wpAnyH_take (i := 3) (v := .pointer (some ⟨g1, 2, none⟩)) (show _ = some ⟨some 70, _, _, _, _, _⟩ from rfl) (by as_aux_lemma => kernel_rfl) (by as_aux_lemma => kernel_rfl) (by as_aux_lemma => kernel_rfl) (fun _ _ _ h => h) (Or.inl ⟨by as_aux_lemma => kernel_rfl, ?_⟩) (by assumption) ?_
          ·intro w' hb
           obtain ⟨s0, s1, s2, s3, s4, s5, s6, s7⟩ := HF.out w' hb
           go_simp
          try simp only [Act.put, List.setIfInBounds_toArray, List.set_cons_zero, List.set_cons_succ]
          refine wpAnyH_take (i := 4) (v := .bool false) (show _ = some ⟨some 71, _, _, _, _, _⟩ from rfl) (by as_aux_lemma => kernel_rfl) (by as_aux_lemma => kernel_rfl) (by as_aux_lemma => kernel_rfl) (fun _ _ _ h => h) (Or.inl ⟨by as_aux_lemma => kernel_rfl, ?_⟩) (by assumption) ?_
          ·intro w' hb
           obtain ⟨s0, s1, s2, s3, s4, s5, s6, s7⟩ := HF.out w' hb
           go_simp
          try simp only [Act.put, List.setIfInBounds_toArray, List.set_cons_zero, List.set_cons_succ]
          refine wpAnyH_take (i := 5) (v := .bool true) (show _ = some ⟨some 72, _, _, _, _, _⟩ from rfl) (by as_aux_lemma => kernel_rfl) (by as_aux_lemma => kernel_rfl) (by as_aux_lemma => kernel_rfl) (fun _ _ _ h => h) (Or.inl ⟨by as_aux_lemma => kernel_rfl, ?_⟩) (by assumption) ?_
          ·intro w' hb
           obtain ⟨s0, s1, s2, s3, s4, s5, s6, s7⟩ := HF.out w' hb
           go_simp
          try simp only [Act.put, List.setIfInBounds_toArray, List.set_cons_zero, List.set_cons_succ]
          refine wpAnyH_take (i := 6) (v := .bool true) (show _ = some ⟨some 73, _, _, _, _, _⟩ from rfl) (by as_aux_lemma => kernel_rfl) (by as_aux_lemma => kernel_rfl) (by as_aux_lemma => kernel_rfl) (fun _ _ _ h => h) (Or.inl ⟨by as_aux_lemma => kernel_rfl, ?_⟩) (by assumption) ?_
          ·intro w' hb
           obtain ⟨s0, s1, s2, s3, s4, s5, s6, s7⟩ := HF.out w' hb
           go_simp
          try simp only [Act.put, List.setIfInBounds_toArray, List.set_cons_zero, List.set_cons_succ]
          refine wpAnyH_take (i := 7) (v := undef) (show _ = some ⟨some 74, _, _, _, _, _⟩ from rfl) (by as_aux_lemma => kernel_rfl) (by as_aux_lemma => kernel_rfl) (by as_aux_lemma => kernel_rfl) (fun _ _ _ h => h) (Or.inr ⟨by as_aux_lemma => kernel_rfl, rfl⟩) (by assumption) ?_
          try simp only [Act.put, List.setIfInBounds_toArray, List.set_cons_zero, List.set_cons_succ]
          refine wpAnyH_take (i := 8) (v := undef) (show _ = some ⟨some 75, _, _, _, _, _⟩ from rfl) (by as_aux_lemma => kernel_rfl) (by as_aux_lemma => kernel_rfl) (by as_aux_lemma => kernel_rfl) (fun _ _ _ h => h) (Or.inr ⟨by as_aux_lemma => kernel_rfl, rfl⟩) (by assumption) ?_
          try simp only [Act.put, List.setIfInBounds_toArray, List.set_cons_zero, List.set_cons_succ]
          refine wpAnyH_take (i := 9) (v := undef) (show _ = some ⟨some 76, _, _, _, _, _⟩ from rfl) (by as_aux_lemma => kernel_rfl) (by as_aux_lemma => kernel_rfl) (by as_aux_lemma => kernel_rfl) (fun _ _ _ h => h) (Or.inr ⟨by as_aux_lemma => kernel_rfl, rfl⟩) (by assumption) ?_
          try simp only [Act.put, List.setIfInBounds_toArray, List.set_cons_zero, List.set_cons_succ]
          refine wpAnyH_take (i := 10) (v := undef) (show _ = some ⟨some 77, _, _, _, _, _⟩ from rfl) (by as_aux_lemma => kernel_rfl) (by as_aux_lemma => kernel_rfl) (by as_aux_lemma => kernel_rfl) (fun _ _ _ h => h) (Or.inr ⟨by as_aux_lemma => kernel_rfl, rfl⟩) (by assumption) ?_
          try simp only [Act.put, List.setIfInBounds_toArray, List.set_cons_zero, List.set_cons_succ]
          refine wpAnyH_take (i := 11) (v := undef) (show _ = some ⟨some 78, _, _, _, _, _⟩ from rfl) (by as_aux_lemma => kernel_rfl) (by as_aux_lemma => kernel_rfl) (by as_aux_lemma => kernel_rfl) (fun _ _ _ h => h) (Or.inr ⟨by as_aux_lemma => kernel_rfl, rfl⟩) (by assumption) ?_
          try simp only [Act.put, List.setIfInBounds_toArray, List.set_cons_zero, List.set_cons_succ]
          refine wpAnyH_take (i := 12) (v := undef) (show _ = some ⟨some 79, _, _, _, _, _⟩ from rfl) (by as_aux_lemma => kernel_rfl) (by as_aux_lemma => kernel_rfl) (by as_aux_lemma => kernel_rfl) (fun _ _ _ h => h) (Or.inr ⟨by as_aux_lemma => kernel_rfl, rfl⟩) (by assumption) ?_
          try simp only [Act.put, List.setIfInBounds_toArray, List.set_cons_zero, List.set_cons_succ]
          refine wpAnyH_take (i := 13) (v := undef) (show _ = some ⟨some 80, _, _, _, _, _⟩ from rfl) (by as_aux_lemma => kernel_rfl) (by as_aux_lemma => kernel_rfl) (by as_aux_lemma => kernel_rfl) (fun _ _ _ h => h) (Or.inr ⟨by as_aux_lemma => kernel_rfl, rfl⟩) (by assumption) ?_
          try simp only [Act.put, List.setIfInBounds_toArray, List.set_cons_zero, List.set_cons_succ]
          refine wpAnyH_take (i := 14) (v := undef) (show _ = some ⟨some 81, _, _, _, _, _⟩ from rfl) (by as_aux_lemma => kernel_rfl) (by as_aux_lemma => kernel_rfl) (by as_aux_lemma => kernel_rfl) (fun _ _ _ h => h) (Or.inr ⟨by as_aux_lemma => kernel_rfl, rfl⟩) (by assumption) ?_
          try simp only [Act.put, List.setIfInBounds_toArray, List.set_cons_zero, List.set_cons_succ]
          refine wpAnyH_take (i := 15) (v := undef) (show _ = some ⟨some 82, _, _, _, _, _⟩ from rfl) (by as_aux_lemma => kernel_rfl) (by as_aux_lemma => kernel_rfl) (by as_aux_lemma => kernel_rfl) (fun _ _ _ h => h) (Or.inr ⟨by as_aux_lemma => kernel_rfl, rfl⟩) (by assumption) ?_
          try simp only [Act.put, List.setIfInBounds_toArray, List.set_cons_zero, List.set_cons_succ]
          refine wpAnyH_take (i := 16) (v := undef) (show _ = some ⟨some 83, _, _, _, _, _⟩ from rfl) (by as_aux_lemma => kernel_rfl) (by as_aux_lemma => kernel_rfl) (by as_aux_lemma => kernel_rfl) (fun _ _ _ h => h) (Or.inr ⟨by as_aux_lemma => kernel_rfl, rfl⟩) (by assumption) ?_
          try simp only [Act.put, List.setIfInBounds_toArray, List.set_cons_zero, List.set_cons_succ]
          refine wpAnyH_take (i := 17) (v := undef) (show _ = some ⟨some 84, _, _, _, _, _⟩ from rfl) (by as_aux_lemma => kernel_rfl) (by as_aux_lemma => kernel_rfl) (by as_aux_lemma => kernel_rfl) (fun _ _ _ h => h) (Or.inr ⟨by as_aux_lemma => kernel_rfl, rfl⟩) (by assumption) ?_
          try simp only [Act.put, List.setIfInBounds_toArray, List.set_cons_zero, List.set_cons_succ]
          refine wpAnyH_take (i := 18) (v := .bool true) (show _ = some ⟨some 85, _, _, _, _, _⟩ from rfl) (by as_aux_lemma => kernel_rfl) (by as_aux_lemma => kernel_rfl) (by as_aux_lemma => kernel_rfl) (fun _ _ _ h => h) (Or.inl ⟨by as_aux_lemma => kernel_rfl, ?_⟩) (by assumption) ?_
          ·intro w' hb
           obtain ⟨s0, s1, s2, s3, s4, s5, s6, s7⟩ := HF.out w' hb
           go_simp
          try simp only [Act.put, List.setIfInBounds_toArray, List.set_cons_zero, List.set_cons_succ]
          refine wpAnyH_take (i := 19) (v := .bool true) (show _ = some ⟨some 86, _, _, _, _, _⟩ from rfl) (by as_aux_lemma => kernel_rfl) (by as_aux_lemma => kernel_rfl) (by as_aux_lemma => kernel_rfl) (fun _ _ _ h => h) (Or.inl ⟨by as_aux_lemma => kernel_rfl, ?_⟩) (by assumption) ?_
          ·intro w' hb
           obtain ⟨s0, s1, s2, s3, s4, s5, s6, s7⟩ := HF.out w' hb
           go_simp
          try simp only [Act.put, List.setIfInBounds_toArray, List.set_cons_zero, List.set_cons_succ]
          refine wpAnyH_done (by as_aux_lemma => kernel_rfl) ?_ _
          exact HJ.out _ _ rfl hS
         | true =>
          obtain ⟨z1, hz1⟩ : ∃ z1, z1 = shortS X (bstr old.x) := ⟨_, rfl⟩
          obtain ⟨z2, hz2⟩ : ∃ z2, z2 = shortS Y (bstr old.y) := ⟨_, rfl⟩
          have HS1 := Lib.hid (fun W => shorter_any X (bstr old.x) (by unfold maxLen; omega) (by unfold maxLen; omega) W)
          have HS2 := Lib.hid (fun W => shorter_any Y (bstr old.y) (by unfold maxLen; omega) (by unfold maxLen; omega) W)
          rw [← hz1] at HS1
          rw [← hz2] at HS2
          have hdz : d = decide (orI [z1, z2] < 0) := by have := Hd.out; rw [← hz1, ← hz2] at this; simpa using this
          obtain ⟨z, hz⟩ : ∃ z, z = orI [z1, z2] := ⟨_, rfl⟩
          rw [← hz] at hdz
          subst hdz
          have Hz := Lib.hid hz
          clear hz hz1 hz2 Hd
          refine wpAnyH_take (i := 0) (v := .pointer (some ⟨g2, 2, none⟩)) (show _ = some ⟨some 67, _, _, _, _, _⟩ from rfl) (by as_aux_lemma => kernel_rfl) (by as_aux_lemma => kernel_rfl) (by as_aux_lemma => kernel_rfl) (fun _ _ _ h => h) (Or.inl ⟨by as_aux_lemma => kernel_rfl, ?_⟩) (by assumption) ?_
          ·intro w' hb
           obtain ⟨s0, s1, s2, s3, s4, s5, s6, s7⟩ := HF.out w' hb
           go_simp
          try simp only [Act.put, List.setIfInBounds_toArray, List.set_cons_zero, List.set_cons_succ]
          refine wpAnyH_take (i := 1) (v := .bool true) (show _ = some ⟨some 68, _, _, _, _, _⟩ from rfl) (by as_aux_lemma => kernel_rfl) (by as_aux_lemma => kernel_rfl) (by as_aux_lemma => kernel_rfl) (fun _ _ _ h => h) (Or.inl ⟨by as_aux_lemma => kernel_rfl, ?_⟩) (by assumption) ?_
          ·intro w' hb
           obtain ⟨s0, s1, s2, s3, s4, s5, s6, s7⟩ := HF.out w' hb
           go_simp
          try simp only [Act.put, List.setIfInBounds_toArray, List.set_cons_zero, List.set_cons_succ]
          refine wpAnyH_take (i := 2) (v := .bool true) (show _ = some ⟨some 69, _, _, _, _, _⟩ from rfl) (by as_aux_lemma => kernel_rfl) (by as_aux_lemma => kernel_rfl) (by as_aux_lemma => kernel_rfl) (fun _ _ _ h => h) (Or.inl ⟨by as_aux_lemma => kernel_rfl, ?_⟩) (by assumption) ?_
          ·intro w' hb
           obtain ⟨s0, s1, s2, s3, s4, s5, s6, s7⟩ := HF.out w' hb
           go_simp
          try simp only [Act.put, List.setIfInBounds_toArray, List.set_cons_zero, List.set_cons_succ]
          refine wpAnyH_take (i := 3) (v := .pointer (some ⟨g1, 2, none⟩)) (show _ = some ⟨some 70, _, _, _, _, _⟩ from rfl) (by as_aux_lemma => kernel_rfl) (by as_aux_lemma => kernel_rfl) (by as_aux_lemma => kernel_rfl) (fun _ _ _ h => h) (Or.inl ⟨by as_aux_lemma => kernel_rfl, ?_⟩) (by assumption) ?_
          ·intro w' hb
           obtain ⟨s0, s1, s2, s3, s4, s5, s6, s7⟩ := HF.out w' hb
           go_simp
          try simp only [Act.put, List.setIfInBounds_toArray, List.set_cons_zero, List.set_cons_succ]
          refine wpAnyH_take (i := 4) (v := .bool true) (show _ = some ⟨some 71, _, _, _, _, _⟩ from rfl) (by as_aux_lemma => kernel_rfl) (by as_aux_lemma => kernel_rfl) (by as_aux_lemma => kernel_rfl) (fun _ _ _ h => h) (Or.inl ⟨by as_aux_lemma => kernel_rfl, ?_⟩) (by assumption) ?_
          ·intro w' hb
           obtain ⟨s0, s1, s2, s3, s4, s5, s6, s7⟩ := HF.out w' hb
           go_simp
          try simp only [Act.put, List.setIfInBounds_toArray, List.set_cons_zero, List.set_cons_succ]
          refine wpAnyH_take (i := 5) (v := .bool false) (show _ = some ⟨some 72, _, _, _, _, _⟩ from rfl) (by as_aux_lemma => kernel_rfl) (by as_aux_lemma => kernel_rfl) (by as_aux_lemma => kernel_rfl) (fun _ _ _ h => h) (Or.inl ⟨by as_aux_lemma => kernel_rfl, ?_⟩) (by assumption) ?_
          ·intro w' hb
           obtain ⟨s0, s1, s2, s3, s4, s5, s6, s7⟩ := HF.out w' hb
           go_simp
          try simp only [Act.put, List.setIfInBounds_toArray, List.set_cons_zero, List.set_cons_succ]
          refine wpAnyH_take (i := 6) (v := .bool false) (show _ = some ⟨some 73, _, _, _, _, _⟩ from rfl) (by as_aux_lemma => kernel_rfl) (by as_aux_lemma => kernel_rfl) (by as_aux_lemma => kernel_rfl) (fun _ _ _ h => h) (Or.inl ⟨by as_aux_lemma => kernel_rfl, ?_⟩) (by assumption) ?_
          ·intro w' hb
           obtain ⟨s0, s1, s2, s3, s4, s5, s6, s7⟩ := HF.out w' hb
           go_simp
          try simp only [Act.put, List.setIfInBounds_toArray, List.set_cons_zero, List.set_cons_succ]
          refine wpAnyH_take (i := 7) (v := .string X) (show _ = some ⟨some 74, _, _, _, _, _⟩ from rfl) (by as_aux_lemma => kernel_rfl) (by as_aux_lemma => kernel_rfl) (by as_aux_lemma => kernel_rfl) (fun _ _ _ h => h) (Or.inl ⟨by as_aux_lemma => kernel_rfl, ?_⟩) (by assumption) ?_
          ·intro w' hb
           obtain ⟨s0, s1, s2, s3, s4, s5, s6, s7⟩ := HF.out w' hb
           go_simp
          try simp only [Act.put, List.setIfInBounds_toArray, List.set_cons_zero, List.set_cons_succ]
          refine wpAnyH_take (i := 8) (v := .pointer (some ⟨g1, 0, none⟩)) (show _ = some ⟨some 75, _, _, _, _, _⟩ from rfl) (by as_aux_lemma => kernel_rfl) (by as_aux_lemma => kernel_rfl) (by as_aux_lemma => kernel_rfl) (fun _ _ _ h => h) (Or.inl ⟨by as_aux_lemma => kernel_rfl, ?_⟩) (by assumption) ?_
          ·intro w' hb
           obtain ⟨s0, s1, s2, s3, s4, s5, s6, s7⟩ := HF.out w' hb
           go_simp
          try simp only [Act.put, List.setIfInBounds_toArray, List.set_cons_zero, List.set_cons_succ]
          refine wpAnyH_take (i := 9) (v := .string (bstr old.x)) (show _ = some ⟨some 76, _, _, _, _, _⟩ from rfl) (by as_aux_lemma => kernel_rfl) (by as_aux_lemma => kernel_rfl) (by as_aux_lemma => kernel_rfl) (fun _ _ _ h => h) (Or.inl ⟨by as_aux_lemma => kernel_rfl, ?_⟩) (by assumption) ?_
          ·intro w' hb
           obtain ⟨s0, s1, s2, s3, s4, s5, s6, s7⟩ := HF.out w' hb
           go_simp
          try simp only [Act.put, List.setIfInBounds_toArray, List.set_cons_zero, List.set_cons_succ]
          refine wpAnyH_take (i := 11) (v := .string Y) (show _ = some ⟨some 78, _, _, _, _, _⟩ from rfl) (by as_aux_lemma => kernel_rfl) (by as_aux_lemma => kernel_rfl) (by as_aux_lemma => kernel_rfl) (fun _ _ _ h => h) (Or.inl ⟨by as_aux_lemma => kernel_rfl, ?_⟩) (by assumption) ?_
          ·intro w' hb
           obtain ⟨s0, s1, s2, s3, s4, s5, s6, s7⟩ := HF.out w' hb
           go_simp
          try simp only [Act.put, List.setIfInBounds_toArray, List.set_cons_zero, List.set_cons_succ]
          refine wpAnyH_take (i := 12) (v := .pointer (some ⟨g1, 1, none⟩)) (show _ = some ⟨some 79, _, _, _, _, _⟩ from rfl) (by as_aux_lemma => kernel_rfl) (by as_aux_lemma => kernel_rfl) (by as_aux_lemma => kernel_rfl) (fun _ _ _ h => h) (Or.inl ⟨by as_aux_lemma => kernel_rfl, ?_⟩) (by assumption) ?_
          ·intro w' hb
           obtain ⟨s0, s1, s2, s3, s4, s5, s6, s7⟩ := HF.out w' hb
           go_simp
          try simp only [Act.put, List.setIfInBounds_toArray, List.set_cons_zero, List.set_cons_succ]
          refine wpAnyH_take (i := 13) (v := .string (bstr old.y)) (show _ = some ⟨some 80, _, _, _, _, _⟩ from rfl) (by as_aux_lemma => kernel_rfl) (by as_aux_lemma => kernel_rfl) (by as_aux_lemma => kernel_rfl) (fun _ _ _ h => h) (Or.inl ⟨by as_aux_lemma => kernel_rfl, ?_⟩) (by assumption) ?_
          ·intro w' hb
           obtain ⟨s0, s1, s2, s3, s4, s5, s6, s7⟩ := HF.out w' hb
           go_simp
          try simp only [Act.put, List.setIfInBounds_toArray, List.set_cons_zero, List.set_cons_succ]
          refine wpAnyH_ready (rs := [10]) (by as_aux_lemma => kernel_rfl) (by simp) (AllReadyH.cons (i := 10) (show _ = some ⟨some 77, _, _, _, _, _⟩ from rfl) (fun K hK => ?_) AllReadyH.nil)
          simp only [Act.put, List.setIfInBounds_toArray, List.set_cons_zero, List.set_cons_succ]
          go_simp
          refine (HS1.out _).mono ?_
          rintro e X5 ⟨rfl, oo5, ho5⟩
          have hS5 : Below X2.heap.size X2 X5 := by rw [ho5]; exact (show Below X2.heap.size X2 X3.drew from hS).alloc hS.size _
          refine hK.out _ _ hS5 (fun _ => ?_)
          clear hK K ho5 hS
          try simp only [Act.put, List.setIfInBounds_toArray, List.set_cons_zero, List.set_cons_succ]
          refine wpAnyH_ready (rs := [14]) (by as_aux_lemma => kernel_rfl) (by simp) (AllReadyH.cons (i := 14) (show _ = some ⟨some 81, _, _, _, _, _⟩ from rfl) (fun K hK => ?_) AllReadyH.nil)
          simp only [Act.put, List.setIfInBounds_toArray, List.set_cons_zero, List.set_cons_succ]
          go_simp
          refine (HS2.out _).mono ?_
          rintro e X6 ⟨rfl, oo6, ho6⟩
          have hS6 : Below X2.heap.size X2 X6 := by rw [ho6]; exact hS5.alloc hS5.size _
          refine hK.out _ _ hS6 (fun _ => ?_)
          clear hK K ho6 hS5
          try simp only [Act.put, List.setIfInBounds_toArray, List.set_cons_zero, List.set_cons_succ]
          have hrow : RowAt (X6.alloc (.cells (nums [z1, z2]).toArray 3)) (X6.heap.size + 1) (some ⟨X6.heap.size, 0, none⟩) (nums [z1, z2]) := fun _ => ⟨_, 0, rfl, by omega, fun i x hx => by rw [Nat.zero_add]; exact Box.new X6 (nums [z1, z2]) 3 i x hx⟩
          have HQ := Lib.hid (Or_any [z1, z2] _ 2 _ (by simp [maxLen]) _ hrow)
          rw [← Hz.out] at HQ
          clear hrow
          refine wpAnyH_ready (rs := [15]) (by as_aux_lemma => kernel_rfl) (by simp) (AllReadyH.cons (i := 15) (show _ = some ⟨some 82, _, _, _, _, _⟩ from rfl) (fun K hK => ?_) AllReadyH.nil)
          simp only [Act.put, List.setIfInBounds_toArray, List.set_cons_zero, List.set_cons_succ]
          go_simp
          refine hK.out _ _ (hS6.alloc hS6.size _) (fun _ => ?_)
          clear hK K
          have hS7 := hS6.alloc hS6.size (.cells (nums [z1, z2]).toArray 3)
          try simp only [Act.put, List.setIfInBounds_toArray, List.set_cons_zero, List.set_cons_succ]
          refine wpAnyH_ready (rs := [16]) (by as_aux_lemma => kernel_rfl) (by simp) (AllReadyH.cons (i := 16) (show _ = some ⟨some 83, _, _, _, _, _⟩ from rfl) (fun K hK => ?_) AllReadyH.nil)
          simp only [Act.put, List.setIfInBounds_toArray, List.set_cons_zero, List.set_cons_succ]
          go_simp
          refine HQ.out.mono ?_
          rintro e X8 ⟨rfl, hw8⟩
          have hS : Below X2.heap.size X2 X8 := by rw [hw8]; exact hS7
          refine hK.out _ _ hS (fun _ => ?_)
          clear hK K hw8 HQ hS6 hS7 HS1 HS2
          try simp only [Act.put, List.setIfInBounds_toArray, List.set_cons_zero, List.set_cons_succ]
          refine wpAnyH_take (i := 17) (v := .bool (decide (z < 0))) (show _ = some ⟨some 84, _, _, _, _, _⟩ from rfl) (by as_aux_lemma => kernel_rfl) (by as_aux_lemma => kernel_rfl) (by as_aux_lemma => kernel_rfl) (fun _ _ _ h => h) (Or.inl ⟨by as_aux_lemma => kernel_rfl, ?_⟩) (by assumption) ?_
          ·intro w' hb
           obtain ⟨s0, s1, s2, s3, s4, s5, s6, s7⟩ := HF.out w' hb
           go_simp
          try simp only [Act.put, List.setIfInBounds_toArray, List.set_cons_zero, List.set_cons_succ]
          refine wpAnyH_take (i := 18) (v := .bool (decide (z < 0))) (show _ = some ⟨some 85, _, _, _, _, _⟩ from rfl) (by as_aux_lemma => kernel_rfl) (by as_aux_lemma => kernel_rfl) (by as_aux_lemma => kernel_rfl) (fun _ _ _ h => h) (Or.inl ⟨by as_aux_lemma => kernel_rfl, ?_⟩) (by assumption) ?_
          ·intro w' hb
           obtain ⟨s0, s1, s2, s3, s4, s5, s6, s7⟩ := HF.out w' hb
           go_simp
          try simp only [Act.put, List.setIfInBounds_toArray, List.set_cons_zero, List.set_cons_succ]
          refine wpAnyH_take (i := 19) (v := .bool (decide (z < 0))) (show _ = some ⟨some 86, _, _, _, _, _⟩ from rfl) (by as_aux_lemma => kernel_rfl) (by as_aux_lemma => kernel_rfl) (by as_aux_lemma => kernel_rfl) (fun _ _ _ h => h) (Or.inl ⟨by as_aux_lemma => kernel_rfl, ?_⟩) (by assumption) ?_
          ·intro w' hb
           obtain ⟨s0, s1, s2, s3, s4, s5, s6, s7⟩ := HF.out w' hb
           go_simp
          try simp only [Act.put, List.setIfInBounds_toArray, List.set_cons_zero, List.set_cons_succ]
          refine wpAnyH_done (by as_aux_lemma => kernel_rfl) ?_ _
          exact HJ.out _ _ rfl hS
       ·rintro a X4 ⟨u, rfl, hb4⟩
        have hb14 : Below X1.heap.size X1 X4 := HG.out.2.2.trans (hb4.mono HG.out.2.2.size)
        have hr4 := HX.out.2.1.below hb14 HX.out.2.1.lt
        have hc4 := HX.out.2.2.1.below hb14 HX.out.2.2.1.lt
        have hd := HD.out.2.2
        cases d with
        | false =>
         have HB := Lib.hid (And.intro hb14 (And.intro hr4 hc4))
         clear hb14 hr4 hc4 hd hb4
         gi_wp2
         exact HEnd.out _ _ _ HX.out.2.2.2.2.2.2.2.1 HX.out.2.2.2.1 ⟨_, _, HX.out.2.1⟩ ⟨_, _, HX.out.2.2.1⟩ (Chg.of_below _ HB.out.1) ⟨l1, c1, HX.out.1, HB.out.2.1, HB.out.2.2, HX.out.2.2.2.2.1, HX.out.2.2.2.2.2.1⟩
        | true =>
         have hdd : rest.is = true ∧ (old.is = true → orI [shortS X (bstr old.x), shortS Y (bstr old.y)] < 0) := by
          have := hd.symm
          simp only [Bool.and_eq_true, Bool.or_eq_true, Bool.not_eq_true', decide_eq_true_eq] at this
          refine ⟨this.1, fun h => ?_⟩
          rcases this.2 with h2 | h2
          ·rw [h] at h2; cases h2
          ·exact h2
         have hfN := HX.out.2.2.2.2.2.2.2.2.2.2.1
         have hl1 : l1.length = n := by have := HX.out.1.len; have := Hn.out; omega
         obtain ⟨new, hnew⟩ : ∃ new : Bst, new = ⟨bl X, bl Y, true⟩ := ⟨_, rfl⟩
         have hstep := HX.out.1.step Hv.out Hc.out Hs.out.1 (old := old) (rest := rest) (new := new) (by rw [hfN, Int.toNat_natCast]; exact HX.out.2.2.2.2.2.2.2.2.1) (by rw [HX.out.2.2.2.2.2.2.2.2.2.2.2, Int.toNat_natCast]; exact HX.out.2.2.2.2.2.2.2.2.2.1) hdd.1
          (by rw [hnew, HD.out.1, bl_cat6, HA.out.1, bl_afterB, bl_bstr]; simp [bl]) (by rw [hnew, HD.out.2.1, bl_cat6, HA.out.2, bl_afterB, bl_bstr]; simp [bl]) (by rw [hnew]) (fun h => by rw [hnew]; exact bst_lt.1 (hdd.2 h))
         rw [hfN, Int.toNat_natCast, hl1] at hstep
         have eset : (((ends l1).set (fN * 3) (.string X)).set (fN * 3 + 1) (.string Y)).set (fN * 3 + 2) (.bool true) = ends (l1.set fN new) := by
          have := ends_set (l := l1) (k := fN) new (by omega)
          rw [hnew] at this
          dsimp only at this
          rw [bstr_bl, bstr_bl] at this
          rw [this, hnew]
         have hr5 : Blk (((X4.setCell ⟨bb, fN * 3, none⟩ (.string X)).setCell ⟨bb, fN * 3 + 1, none⟩ (.string Y)).setCell ⟨bb, fN * 3 + 2, none⟩ (.bool true)) bb (ends (l1.set fN new)).toArray 84 := by
          have := ((hr4.set_ (fN * 3) (.string X)).set_ (fN * 3 + 1) (.string Y)).set_ (fN * 3 + 2) (.bool true)
          rw [← eset]
          simpa using this
         have hc5 : Blk (((X4.setCell ⟨bb, fN * 3, none⟩ (.string X)).setCell ⟨bb, fN * 3 + 1, none⟩ (.string Y)).setCell ⟨bb, fN * 3 + 2, none⟩ (.bool true)) cb #[.bool c1] 4 := ((hc4.far (p := ⟨bb, fN * 3, none⟩) hcbn _).far (p := ⟨bb, fN * 3 + 1, none⟩) hcbn _).far (p := ⟨bb, fN * 3 + 2, none⟩) hcbn _
         have hg45 : Chg (fun b => b = bb) X4 (((X4.setCell ⟨bb, fN * 3, none⟩ (.string X)).setCell ⟨bb, fN * 3 + 1, none⟩ (.string Y)).setCell ⟨bb, fN * 3 + 2, none⟩ (.bool true)) :=
          ((Chg.setCell (S := fun b => b = bb) (p := ⟨bb, fN * 3, none⟩) _ (.inl rfl) _).trans (Chg.setCell (S := fun b => b = bb) (p := ⟨bb, fN * 3 + 1, none⟩) _ (.inl rfl) _)).trans (Chg.setCell (S := fun b => b = bb) (p := ⟨bb, fN * 3 + 2, none⟩) _ (.inl rfl) _)
         have hold := HX.out.2.2.2.2.2.2.2.2.1
         obtain ⟨o0, o1, o2⟩ := ends_get hold
         have e0 : X4.cell? ⟨bb + 1, 0, none⟩ = some (.slice (some ⟨bb, 0, none⟩) n n) := ((H5.out.1.chg (H6.out.2.1.trans_if HX.out.2.2.2.1 (fun k hk hkl => by rcases hk with h | h; exact .inl h; right; omega)) (by omega)).below hb14 (by omega)).cell 0
         have e1 : X4.cell? ⟨g, 0, none⟩ = some (.int .i64 fN) := by rw [← hfN]; exact (HX.out.2.2.2.2.2.2.1.below hb14 HX.out.2.2.2.2.2.2.1.lt).cell 0
         have r0 : X4.cell? ⟨bb, fN * 3, none⟩ = some (.string (bstr old.x)) := (hr4.cell _).trans (by simpa using o0)
         have r1 : X4.cell? ⟨bb, fN * 3 + 1, none⟩ = some (.string (bstr old.y)) := (hr4.cell _).trans (by simpa using o1)
         have r2 : X4.cell? ⟨bb, fN * 3 + 2, none⟩ = some (.bool old.is) := (hr4.cell _).trans (by simpa using o2)
         have fb : ∀ j, X4.frozen? ⟨bb, j, none⟩ = false := fun j => hr4.frozen j
         have x9 := hc5.cell 0
         have f9 := hc5.frozen 0
         simp only [List.getElem?_toArray, List.getElem?_cons_zero] at x9
         have hemp : ∀ (k : Nat) b, (l1.set fN new)[k]? = some b → b.is = false → b.x = [] ∧ b.y = [] := fun k b hk hb => by
          by_cases e : k = fN
          ·subst e
           rw [List.getElem?_set_self (by omega)] at hk
           cases hk
           rw [hnew] at hb; cases hb
          ·rw [List.getElem?_set_ne (fun e' => e e'.symm)] at hk
           exact HX.out.2.2.2.2.1 k b hk hb
         have hrk : ranks n (l1.set fN new) + b2n true ≤ ranks n l := by
          have h1 := hstep.2
          have h2 := HX.out.2.2.2.2.2.1
          show ranks n (l1.set fN new) + 1 ≤ ranks n l
          omega
         have HB := Lib.hid (And.intro hb14 (And.intro hr5 (And.intro hc5 (And.intro hg45 (And.intro hstep.1 (And.intro hemp hrk))))))
         have hcbn' : bb ≠ cb := fun e => hcbn e.symm
         clear hb14 hr4 hc4 hd hb4 hdd hfN hl1 hnew hstep eset hr5 hc5 hg45 hold o0 o1 o2 hemp hrk
         gi_wp2
         refine HEnd.out _ _ _ HX.out.2.2.2.2.2.2.2.1 HX.out.2.2.2.1 ⟨_, _, HX.out.2.1⟩ ⟨_, _, HX.out.2.2.1⟩ ?_ ⟨_, true, HB.out.2.2.2.2.1, HB.out.2.1.far (p := ⟨cb, 0, none⟩) hcbn' _, ?_, HB.out.2.2.2.2.2.1, HB.out.2.2.2.2.2.2⟩
         ·exact ((Chg.of_below _ HB.out.1).trans (HB.out.2.2.2.1.mono (fun k h => .inl h))).trans (Chg.setCell (S := fun b => b = bb ∨ b = cb) (p := ⟨cb, 0, none⟩) _ (.inl (.inr rfl)) _)
         ·have := HB.out.2.2.1.set_ 0 (.bool true)
          simpa using this
    case done =>
     rintro D ys X hD hys ⟨l', c', h1, h2, h3, h4, h5, h6⟩ hK
     have c9 : X.cell? ⟨cb, 0, none⟩ = some (.bool c') := h3.cell 0
     have hz := h4.size
     have hcX : Chg (fun b => b = bb ∨ b = cb0) W5 X := H6.out.2.1.trans_if h4 (fun k hk hkl => by rcases hk with h | h; exact .inl h; right; omega)
     have hmkX : MarksOk ({ target := .collected D, args := #[] } :: ds) X W5.heap.size := Hmk6.out.cons h4 (fun E hE hE0 hk => by
      rcases hk with h | h
      ·have hx := H6.out.2.2.1
       unfold Blk at hx
       rw [← h, hE] at hx; cases hx
      ·have hx := H6.out.2.2.2.1
       unfold Blk at hx
       rw [← h, hE] at hx; cases hx) hD (by omega) hK
     have HX := Lib.hid (And.intro h1 (And.intro h2 (And.intro h5 (And.intro h6 (And.intro hcX hmkX)))))
     clear h1 h2 h3 h4 h5 h6 hcX hmkX hys hK HEnd
     go_wp2_with fail
     have hb9 : Below X.heap.size X (X.alloc (.cells #[.bool c'] 4)) := (Below.refl _ _).alloc (Nat.le_refl _) _
     exact ⟨ranks n l' + b2n c', by have := HX.out.2.2.2.1; show ranks n l' + b2n c' < ranks n l + 1; omega, HRel.out _ _ _ _ _ _ _ rfl rfl ⟨HX.out.1, HX.out.2.1.below hb9 HX.out.2.1.lt, Blk.new _ _ _, HX.out.2.2.2.2.1.trans (Chg.of_below _ hb9), .inr (by omega), HX.out.2.2.1⟩ (HX.out.2.2.2.2.2.chg (Chg.of_below (fun _ => False) hb9) (fun _ _ _ h => h))⟩
end Go.Proofs.YtabocamjaecaaaaGreatDoor
