/- Walk: alphabet.Read. -/
import Derived.Test.YtielbaaaipkbdaaGreatDoorA6
import Derived.Test.YtielbaaaipkbdaaGreatDoorGV
import Derived.RangeFuncBox
import Derived.Maps.AppendAt
namespace Go.Proofs.YtielbaaaipkbdaaGreatDoor
open Go.RowKit Classical
open Go.Shelf
attribute [local go_sem] Oper.semAt_some

/-- What reading a word gives. -/
noncomputable def readA (A : Alph) (s : ByteArray) : Rd := if Valid10 A then readL A.bls (bl s) else ⟨[], 1, 0⟩
def ReadPost (R : Rd) (w : World) (e : Ending) (w' : World) : Prop :=
  ∃ v, e = .returned (.tuple #[v, .int .i64 R.err, .int .i64 R.off]) ∧ w'.ownsRow w.heap.size 3 1 v R.letters.length (nums R.letters) ∧ Below w.heap.size w w'

theorem bodyPostM_ret {F : Fence} {n : Nat} {P : Program} {fn : Func} {R : Ending → World → Prop} {a : Act} {w : World} {v : Value}
    (hr : (results fn a.tmps).run P w = .ok v w) (hd : a.defers = []) (hR : R (.returned v) w) : bodyPostM F n P fn R .ret a w := by
  show LeavesInM F n P fn a.tmps R a.defers .returning w
  rw [hd]
  exact ⟨v, hr, hR⟩
theorem bodyPostM_mark {F : Fence} {n : Nat} {P : Program} {fn : Func} {R : Ending → World → Prop} {a : Act} {w : World} {v : Value} {D : Nat}
    (hK : w.heap[D]? = some (.deferred (some []))) (hr : (results fn a.tmps).run P (w.putObj D (.deferred none)) = .ok v (w.putObj D (.deferred none))) (hd : a.defers = [{ target := .collected D, args := #[] }]) (hR : R (.returned v) (w.putObj D (.deferred none))) : bodyPostM F n P fn R .ret a w := by
  show LeavesInM F n P fn a.tmps R a.defers .returning w
  rw [hd]
  exact ⟨by simp, .inl ⟨_, _, rfl, run_takeDeferred hK, v, hr, hR⟩⟩

theorem own_blk {W W' : World} {b : Nat} {cs : Array Value} {t : TypeId} {row : Option Nat} (h : Blk W b cs t) (hg : W.grownBy W' row) (hr : ∀ r, row = some r → ∃ o : Obj, W.heap[r]? = some o ∧ o.isCells = false) : Blk W' b cs t := by
  refine h.grown hg (fun e => ?_)
  obtain ⟨ob, ho, hc⟩ := hr _ e.symm
  rw [show W.heap[b]? = _ from h] at ho
  cases ho
  cases hc

/-- A block of another type behind an append to a row and a store into another block. -/
theorem blk_appended {W w1 : World} {b : Nat} {cs : Array Value} {t : TypeId} (h : Blk W b cs t) {base size k : Nat} {e : TypeId} {v : Value} {xs : List Value} (hrow : W.ownsRow base e size v k xs) (hne : e ≠ t) {tmp : Obj} (hg : (W.alloc tmp).grownBy w1 v.ownBlock) {p : Addr} (hp : b ≠ p.block) (u : Value) :
    Blk (w1.setCell p u) b cs t :=
  ((h.alloc tmp).grown hg (fun e' => h.own_ne hrow hne e'.symm)).far hp u

/-- Three variables, each a block of its own, written one after the other. -/
theorem blk3 {w1 : World} {x : Nat} {t1 t2 t3 : TypeId} {c1 c2 c3 : Value} (h1 : Blk w1 (x + 1) #[c1] t1) (h2 : Blk w1 (x + 1 + 1) #[c2] t2) (h3 : Blk w1 (x + 1 + 1 + 1) #[c3] t3) (v1 v2 v3 : Value) {w : World} {B : Nat} (hb : Below B w w1) (hB : B ≤ x) :
    (((w1.setCell ⟨x + 1, 0, none⟩ v1).setCell ⟨x + 1 + 1, 0, none⟩ v2).setCell ⟨x + 1 + 1 + 1, 0, none⟩ v3).cell? ⟨x + 1, 0, none⟩ = some v1 ∧
    (((w1.setCell ⟨x + 1, 0, none⟩ v1).setCell ⟨x + 1 + 1, 0, none⟩ v2).setCell ⟨x + 1 + 1 + 1, 0, none⟩ v3).cell? ⟨x + 1 + 1, 0, none⟩ = some v2 ∧
    (((w1.setCell ⟨x + 1, 0, none⟩ v1).setCell ⟨x + 1 + 1, 0, none⟩ v2).setCell ⟨x + 1 + 1 + 1, 0, none⟩ v3).cell? ⟨x + 1 + 1 + 1, 0, none⟩ = some v3 ∧
    Below B w (((w1.setCell ⟨x + 1, 0, none⟩ v1).setCell ⟨x + 1 + 1, 0, none⟩ v2).setCell ⟨x + 1 + 1 + 1, 0, none⟩ v3) := by
  have k1 : Blk _ (x + 1) #[v1] t1 := ((h1.set_ 0 v1).far (p := ⟨x + 1 + 1, 0, none⟩) (by simp) v2).far (p := ⟨x + 1 + 1 + 1, 0, none⟩) (by show x + 1 ≠ x + 1 + 1 + 1; omega) v3
  have k2 : Blk _ (x + 1 + 1) #[v2] t2 := ((h2.far (p := ⟨x + 1, 0, none⟩) (by simp) v1).set_ 0 v2).far (p := ⟨x + 1 + 1 + 1, 0, none⟩) (by simp) v3
  have k3 : Blk _ (x + 1 + 1 + 1) #[v3] t3 := ((h3.far (p := ⟨x + 1, 0, none⟩) (by show x + 1 + 1 + 1 ≠ x + 1; omega) v1).far (p := ⟨x + 1 + 1, 0, none⟩) (by show x + 1 + 1 + 1 ≠ x + 1 + 1; omega) v2).set_ 0 v3
  exact ⟨k1.cell 0, k2.cell 0, k3.cell 0, ((hb.setCell (p := ⟨x + 1, 0, none⟩) (by show B ≤ x + 1; omega) _).setCell (p := ⟨x + 1 + 1, 0, none⟩) (by show B ≤ x + 1 + 1; omega) _).setCell (p := ⟨x + 1 + 1 + 1, 0, none⟩) (by show B ≤ x + 1 + 1 + 1; omega) _⟩

/-- Three cells of results, each a block of its own. -/
theorem read_ret {A : Alph} {s : ByteArray} {R : Rd} (hR : readA A s = R) (hl : R.letters = []) {w W : World} {n : Nat} {tmps : Array Value} {b1 b2 b3 : Nat} (t1 : tmps[4]?.getD undef = .pointer (some ⟨b1, 0, none⟩)) (t2 : tmps[5]?.getD undef = .pointer (some ⟨b2, 0, none⟩)) (t3 : tmps[6]?.getD undef = .pointer (some ⟨b3, 0, none⟩))
    (m1 : W.cell? ⟨b1, 0, none⟩ = some (.slice none 0 0)) (m2 : W.cell? ⟨b2, 0, none⟩ = some (.int .i64 R.err)) (m3 : W.cell? ⟨b3, 0, none⟩ = some (.int .i64 R.off)) (hb : Below w.heap.size w W) :
    bodyPostM Fence.wide n Tryz.prog Tryz.f21 (ReadPost (readA A s) w) .ret { tmps := tmps, defers := [] } W := by
  refine bodyPostM_ret (v := .tuple #[.slice none 0 0, .int .i64 R.err, .int .i64 R.off]) ?_ rfl ?_
  · simp [results, Tryz.results21, go_sem, t1, t2, t3, m1, m2, m3]
  · rw [hR]
    refine ⟨_, rfl, ?_, hb⟩
    rw [hl]
    exact World.ownsRow_nil _ _ _ _

/-- Between two rounds of Read's loop. -/
def ReadI (w2 : World) (o b : Nat) (s : ByteArray) (pre : List (Nat × Int)) (W : World) : Prop :=
  (∃ v, Boxed W o 26 v ∧ W.ownsRow o 3 1 v pre.length (nums (pre.map (·.2)))) ∧ Blk W (o + 1) #[.map (some b)] 100 ∧ Blk W (o + 1 + 1) #[.string s] 9 ∧ (∀ y ∈ pre, 0 ≤ y.2) ∧ pre.length ≤ 24 ∧ Below o w2 W
/-- A round has left. -/
def ReadX (w : World) (c : Code) (pre : List (Nat × Int)) (W : World) : Prop :=
  c = .ret ∧ ∃ pre' x err, pre = pre' ++ [x] ∧ (∀ y ∈ pre', 0 ≤ y.2) ∧ (x.2 < 0 ∧ err = 3 ∧ pre'.length ≤ 24 ∨ 0 ≤ x.2 ∧ err = 2 ∧ pre'.length = 24) ∧ Blk W (w.heap.size + 1) #[.slice none 0 0] 26 ∧ Blk W (w.heap.size + 1 + 1) #[.int .i64 err] 34 ∧ Blk W (w.heap.size + 1 + 1 + 1) #[.int .i64 (x.1 : Int)] 3 ∧ Below w.heap.size w W
theorem keeps3 (W : World) (p q r : Addr) (u v x : Value) (B : Nat) : KeepsFrom B W (((W.setCell p u).setCell q v).setCell r x) :=
  (((KeepsOthers.setCell _ _ _).trans (KeepsOthers.setCell _ _ _)).trans (KeepsOthers.setCell _ _ _)).from _
theorem blk3' {w1 : World} {x : Nat} {t1 t2 t3 : TypeId} {c1 c2 c3 : Value} (h1 : Blk w1 (x + 1) #[c1] t1) (h2 : Blk w1 (x + 1 + 1) #[c2] t2) (h3 : Blk w1 (x + 1 + 1 + 1) #[c3] t3) (v1 v2 v3 : Value) {w : World} {B : Nat} (hb : Below B w w1) (hB : B ≤ x) :
    Blk (((w1.setCell ⟨x + 1, 0, none⟩ v1).setCell ⟨x + 1 + 1, 0, none⟩ v2).setCell ⟨x + 1 + 1 + 1, 0, none⟩ v3) (x + 1) #[v1] t1 ∧ Blk (((w1.setCell ⟨x + 1, 0, none⟩ v1).setCell ⟨x + 1 + 1, 0, none⟩ v2).setCell ⟨x + 1 + 1 + 1, 0, none⟩ v3) (x + 1 + 1) #[v2] t2 ∧
    Blk (((w1.setCell ⟨x + 1, 0, none⟩ v1).setCell ⟨x + 1 + 1, 0, none⟩ v2).setCell ⟨x + 1 + 1 + 1, 0, none⟩ v3) (x + 1 + 1 + 1) #[v3] t3 ∧ Below B w (((w1.setCell ⟨x + 1, 0, none⟩ v1).setCell ⟨x + 1 + 1, 0, none⟩ v2).setCell ⟨x + 1 + 1 + 1, 0, none⟩ v3) :=
  ⟨((h1.set_ 0 v1).far (p := ⟨x + 1 + 1, 0, none⟩) (by simp) v2).far (p := ⟨x + 1 + 1 + 1, 0, none⟩) (by show x + 1 ≠ x + 1 + 1 + 1; omega) v3,
   ((h2.far (p := ⟨x + 1, 0, none⟩) (by simp) v1).set_ 0 v2).far (p := ⟨x + 1 + 1 + 1, 0, none⟩) (by simp) v3,
   ((h3.far (p := ⟨x + 1, 0, none⟩) (by show x + 1 + 1 + 1 ≠ x + 1; omega) v1).far (p := ⟨x + 1 + 1, 0, none⟩) (by show x + 1 + 1 + 1 ≠ x + 1 + 1; omega) v2).set_ 0 v3,
   (blk3 h1 h2 h3 v1 v2 v3 hb hB).2.2.2⟩
/-- A row in blocks from o on, behind stores below o. -/
theorem row3 {W : World} {o : Nat} {e : TypeId} {size n : Nat} {v : Value} {xs : List Value} (h : W.ownsRow o e size v n xs) {p q r : Addr} (hp : p.block < o) (hq : q.block < o) (hr : r.block < o) (u1 u2 u3 : Value) : (((W.setCell p u1).setCell q u2).setCell r u3).ownsRow o e size v n xs := by
  have key : ∀ {W : World} {a : Addr}, W.ownsRow o e size v n xs → a.block < o → ∀ u, (W.setCell a u).ownsRow o e size v n xs := fun {W a} h ha u =>
    own_setCell h (fun e => by have := (h.lt _ e).1; omega) u
  exact key (key (key h hp u1) hq u2) hr u3
theorem blk_putObj {W : World} {b : Nat} {cs : Array Value} {t : TypeId} (h : Blk W b cs t) {D : Nat} (hD : b ≠ D) (o : Obj) : Blk (W.putObj D o) b cs t := (World.putObj_heap_other hD).trans h
/-- The same behind a loop over an iterator. -/
theorem read_mark {A : Alph} {s : ByteArray} {R : Rd} (hR : readA A s = R) {w W : World} {n x D : Nat} {tmps : Array Value} {t1' t2' t3' : TypeId} {v : Value} (t1 : tmps[4]?.getD undef = .pointer (some ⟨x + 1, 0, none⟩)) (t2 : tmps[5]?.getD undef = .pointer (some ⟨x + 1 + 1, 0, none⟩)) (t3 : tmps[6]?.getD undef = .pointer (some ⟨x + 1 + 1 + 1, 0, none⟩))
    (hD : x + 3 < D) (hw : w.heap.size ≤ x) (hK : W.heap[D]? = some (.deferred (some []))) (k1 : Blk W (x + 1) #[v] t1') (k2 : Blk W (x + 1 + 1) #[.int .i64 R.err] t2') (k3 : Blk W (x + 1 + 1 + 1) #[.int .i64 R.off] t3')
    (hrow : W.ownsRow w.heap.size 3 1 v R.letters.length (nums R.letters)) (hb : Below w.heap.size w W) :
    bodyPostM Fence.wide n Tryz.prog Tryz.f21 (ReadPost (readA A s) w) .ret { tmps := tmps, defers := [{ target := .collected D, args := #[] }] } W := by
  have m1 := (blk_putObj k1 (D := D) (by omega) (.deferred none)).cell 0
  have m2 := (blk_putObj k2 (D := D) (by omega) (.deferred none)).cell 0
  have m3 := (blk_putObj k3 (D := D) (by omega) (.deferred none)).cell 0
  simp only [List.getElem?_toArray, List.getElem?_cons_zero] at m1 m2 m3
  refine bodyPostM_mark (v := .tuple #[v, .int .i64 R.err, .int .i64 R.off]) hK ?_ rfl ?_
  · simp [results, Tryz.results21, go_sem, t1, t2, t3, m1, m2, m3]
  · rw [hR]
    exact ⟨_, rfl, ownsRow_putObj hrow _ hK rfl, hb.trans (((Below.refl _ W).grown (grownBy_putObj' W D _) hb.size (fun k e => by cases e; omega)))⟩

set_option maxRecDepth 100000 in
set_option maxHeartbeats 2000000 in
theorem Read_any (A : Alph) (v : Value) (s : ByteArray) (hs : s.size ≤ maxLen) (w : World) (h : AlphAt w w.heap.size v A) :
    Calls Tryz.prog 21 #[v, .string s] w (ReadPost (readA A s) w) := by
  have hA := h
  obtain ⟨la, lc, sa, sc, rfl, hn, hl1, hs1, hls, hl, hsm⟩ := h
  obtain ⟨i0, hi, hz0, hz1, hz2⟩ := info_parts info_int
  refine (callsIn_wide (n := 5)).1 ?_
  refine callsIn_of_wp_marks Tryz.func21 rfl trivial ?_ rfl
  simp only [Tryz.ntmps21, List.size_toArray, List.length_cons, List.length_nil, Nat.reduceAdd, Nat.reduceSub, Array.replicate_succ, Array.replicate_zero, List.push_toArray, List.append_toArray, List.nil_append, List.cons_append]
  refine wpIn_wide.2 ?_
  go_wp2_with fail
  obtain ⟨W0, hW0⟩ : ∃ W0 : World, W0 = (((w.alloc (.cells #[.string A.name, .slice la A.letters.length lc, .slice sa A.small.length sc] 28)).alloc (.cells #[.slice none 0 0] 26)).alloc (.cells #[.int .i64 0] 34)).alloc (.cells #[.int .i64 0] 3) := ⟨_, rfl⟩
  rw [← hW0]
  have hw0 : Below w.heap.size w W0 := by rw [hW0]; exact ((((Below.refl _ _).alloc (Nat.le_refl _) _).alloc (by simp) _).alloc (by simp; omega) _).alloc (by simp; omega) _
  have hsz : W0.heap.size = w.heap.size + 4 := by rw [hW0]; simp
  have hB0 : Blk W0 w.heap.size #[.string A.name, .slice la A.letters.length lc, .slice sa A.small.length sc] 28 := by rw [hW0]; exact (((Blk.new _ _ _).alloc _).alloc _).alloc _
  have hB1 : Blk W0 (w.heap.size + 1) #[.slice none 0 0] 26 := by rw [hW0]; have := ((Blk.new (w.alloc (.cells #[.string A.name, .slice la A.letters.length lc, .slice sa A.small.length sc] 28)) #[.slice none 0 0] 26).alloc (.cells #[.int .i64 0] 34)).alloc (.cells #[.int .i64 0] 3); simpa using this
  have hB2 : Blk W0 (w.heap.size + 2) #[.int .i64 0] 34 := by rw [hW0]; have := (Blk.new ((w.alloc (.cells #[.string A.name, .slice la A.letters.length lc, .slice sa A.small.length sc] 28)).alloc (.cells #[.slice none 0 0] 26)) #[.int .i64 0] 34).alloc (.cells #[.int .i64 0] 3); simpa using this
  have hB3 : Blk W0 (w.heap.size + 3) #[.int .i64 0] 3 := by rw [hW0]; have := Blk.new (((w.alloc (.cells #[.string A.name, .slice la A.letters.length lc, .slice sa A.small.length sc] 28)).alloc (.cells #[.slice none 0 0] 26)).alloc (.cells #[.int .i64 0] 34)) #[.int .i64 0] 3; simpa using this
  have hA0 : AlphAt W0 W0.heap.size (.agg #[.string A.name, .slice la A.letters.length lc, .slice sa A.small.length sc]) A := (hA.below hw0 (Nat.le_refl _)).more hw0.size
  clear hW0
  refine (AValid_any A _ _ hA0).mono ?_
  rintro e w1 ⟨rfl, hb1⟩
  have hb1w := hw0.trans (hb1.mono hw0.size)
  have e11 : w.heap.size + 1 + 1 = w.heap.size + 2 := rfl
  have HB := Lib.hid (fun (wr : World) (hbr : Below W0.heap.size W0 wr) => (show Blk wr w.heap.size #[.string A.name, .slice la A.letters.length lc, .slice sa A.small.length sc] 28 ∧ Blk wr (w.heap.size + 1) #[.slice none 0 0] 26 ∧ Blk wr (w.heap.size + 2) #[.int .i64 0] 34 ∧ Blk wr (w.heap.size + 3) #[.int .i64 0] 3 from
    ⟨hB0.below hbr (by omega), hB1.below hbr (by omega), hB2.below hbr (by omega), hB3.below hbr (by omega)⟩))
  clear hB0 hB1 hB2 hB3 e11
  have m1 := (HB.out w1 hb1).2.1.cell 0
  have f1 := (HB.out w1 hb1).2.1.frozen 0
  have m2 : w1.cell? ⟨w.heap.size + 1 + 1, 0, none⟩ = _ := (HB.out w1 hb1).2.2.1.cell 0
  have f2 : w1.frozen? ⟨w.heap.size + 1 + 1, 0, none⟩ = _ := (HB.out w1 hb1).2.2.1.frozen 0
  have m3 : w1.cell? ⟨w.heap.size + 1 + 1 + 1, 0, none⟩ = _ := (HB.out w1 hb1).2.2.2.cell 0
  have f3 : w1.frozen? ⟨w.heap.size + 1 + 1 + 1, 0, none⟩ = _ := (HB.out w1 hb1).2.2.2.frozen 0
  by_cases hv : Valid10 A
  · rw [decide_eq_true hv]
    by_cases ht : bl s = []
    · have e1 := nil_yes ht
      have e2 := (empty_iff s).2 ht
      have hK := Lib.hid (show readA A s = ⟨[], 6, 0⟩ by rw [readA, if_pos hv, readL, if_pos ht])
      clear hv ht
      go_wp2_with fail
      obtain ⟨q1, q2, q3, q4⟩ := blk3 (HB.out w1 hb1).2.1 (HB.out w1 hb1).2.2.1 (HB.out w1 hb1).2.2.2 (.slice none 0 0) (.int .i64 6) (.int .i64 0) hb1w (Nat.le_refl _)
      exact read_ret hK.out rfl rfl rfl rfl q1 q2 q3 q4
    · have e1 := empty_no ht
      have Hv := Lib.hid hv
      have Ht := Lib.hid ht
      have hf := hv.1
      have hA1 : AlphAt w1 w1.heap.size (.agg #[.string A.name, .slice la A.letters.length lc, .slice sa A.small.length sc]) A := (hA.below hb1w (Nat.le_refl _)).more hb1w.size
      have a0 : w1.cell? ⟨w.heap.size, 0, none⟩ = _ := (HB.out w1 hb1).1.cell 0
      have a1 : w1.cell? ⟨w.heap.size, 1, none⟩ = _ := (HB.out w1 hb1).1.cell 1
      have a2 : w1.cell? ⟨w.heap.size, 2, none⟩ = _ := (HB.out w1 hb1).1.cell 2
      simp only [List.getElem?_toArray, List.getElem?_cons_zero, List.getElem?_cons_succ] at a0 a1 a2
      clear hv ht m1 f1 m2 f2 m3 f3
      go_wp2_with fail
      refine (places_any A _ _ hA1).mono ?_
      rintro e w2 ⟨mv, rfl, hmv, hb2⟩
      obtain ⟨b, rfl, hbb, hM⟩ := hmv hf
      rw [decide_eq_true hf]
      have Hf := Lib.hid hf
      have hb2W := hb1.trans (hb2.mono hb1.size)
      have hb2w := hw0.trans (hb2W.mono hw0.size)
      have HM := Lib.hid hM
      clear hf hmv hM a0 a1 a2
      go_wp2_with fail
      refine (letters_any b s _).mono ?_
      rintro e w3 ⟨rfl, hw3⟩
      go_wp2_with fail
      clear hw3
      obtain ⟨W3, hW3⟩ : ∃ W3 : World, W3 = ((w2.alloc (.cells #[.slice none 0 0] 26)).alloc (.cells #[.map (some b)] 100)).alloc (.cells #[.string s] 9) := ⟨_, rfl⟩
      rw [← hW3]
      have hbo : b < w2.heap.size := HM.out.lt
      have g0 : Boxed W3 w2.heap.size 26 (.slice none 0 0) := by rw [hW3]; exact ((Boxed.new w2 _ _).alloc _).alloc _
      have g1 : Blk W3 (w2.heap.size + 1) #[.map (some b)] 100 := by rw [hW3]; have := (Blk.new (w2.alloc (.cells #[.slice none 0 0] 26)) #[.map (some b)] 100).alloc (.cells #[.string s] 9); simpa using this
      have g2 : Blk W3 (w2.heap.size + 1 + 1) #[.string s] 9 := by rw [hW3]; have := Blk.new ((w2.alloc (.cells #[.slice none 0 0] 26)).alloc (.cells #[.map (some b)] 100)) #[.string s] 9; simpa using this
      have hb3 : Below w2.heap.size w2 W3 := by rw [hW3]; exact (((Below.refl _ _).alloc (Nat.le_refl _) _).alloc (by simp) _).alloc (by simp; omega) _
      have hs3 : W3.heap.size = w2.heap.size + 3 := by rw [hW3]; simp
      have hxo : w.heap.size + 4 ≤ w2.heap.size := by have := hb2W.size; omega
      obtain ⟨o, ho⟩ : ∃ o, w2.heap.size = o := ⟨_, rfl⟩
      rw [ho] at g0 g1 g2 hb3 hs3 hxo hbo ⊢
      clear hW3
      have hlen3 := Hf.out.len
      have hnd := Hf.out.nodup
      refine (wpIn_wide (n := 5)).1 ?_
      refine wpIn_rangeFunc_ownG (α := Nat × Int) (encs := fun x => #[.int .i64 (x.1 : Int), .int .i64 x.2]) (Kp := Keep3 (o + 1 + 1) (o + 1) b) (S := fun ys => ys = lseq A.bls (s.size + 1) (bl s) 0) (Sp := fun pre => pre <+: lseq A.bls (s.size + 1) (bl s) 0) (N := (lseq A.bls (s.size + 1) (bl s) 0).length) (w0 := W3)
        rfl (by omega) (gf := 82) (lb := #[.pointer (some ⟨o + 1 + 1, 0, none⟩), .pointer (some ⟨o + 1, 0, none⟩)]) rfl trivial (enters_of Tryz.func82 (by kernel_rfl) rfl)
        ?seq (fun h k => h.trans k) ?kb (Below.refl _ _) (fun _ => rfl)
        (ReadI w2 o b s)
        (ReadX w)
        ?hI ?hIx ?h0
        (fun x => { tmps := #[.agg #[.string A.name, .slice la A.letters.length lc, .slice sa A.small.length sc],
          .string s, .pointer (some ⟨w.heap.size, 0, none⟩), undef, .pointer (some ⟨w.heap.size + 1, 0, none⟩), .pointer (some ⟨w.heap.size + 1 + 1, 0, none⟩), .pointer (some ⟨w.heap.size + 1 + 1 + 1, 0, none⟩), .map (some b), .bool true,
          .pointer (some ⟨o, 0, none⟩), .int .i64 (x.1 : Int), .int .i64 x.2, .agg #[.string A.name, .slice la A.letters.length lc, .slice sa A.small.length sc], .bool true, .bool false, .string s, .bool false,
          .tuple #[.map (some b), .bool true], .agg #[.string A.name, .slice la A.letters.length lc, .slice sa A.small.length sc], .tuple #[.map (some b), .bool true], .map (some b), .bool true, .map (some b), .string s,
          .func (.func 82) #[] #[.pointer (some ⟨o + 1 + 1, 0, none⟩), .pointer (some ⟨o + 1, 0, none⟩)], .int .i64 (x.1 : Int), .int .i64 x.2, undef, undef, undef, undef, undef, undef, undef, undef, undef, undef, undef, undef, undef, undef], defers := [] }) ?assign ?body ?done ?stop
      case seq =>
        intro l J Jx W hW hJ hJx hY h0
        exact letters1_in 4 (by omega) l (o + 1 + 1) (o + 1) b A hnd hlen3 s hs J Jx (fun p W n h => hJ p W (W.drewN n) none h (grown_drewN W n) (by simp)) hY W ((g2.below hW (by omega)).cell 0) ((g1.below hW (by omega)).cell 0) ((HM.out.below (hb3) hbo).below hW (by omega)) h0
      case kb =>
        intro W l ob ob' hl _ _ _
        exact ⟨World.putObj_heap_other (by omega), World.putObj_heap_other (by omega), World.putObj_heap_other (by omega)⟩
      case hI =>
        rintro pre X Y row ⟨h1, h2, h3, h4, h5, h6⟩ hg hr
        refine ⟨holdsRow_own o o 26 3 1 (fun pre : List (Nat × Int) => pre.length) (fun pre => nums (pre.map (·.2))) (fun _ _ => True) pre X Y row (by obtain ⟨v, hv1, hv2⟩ := h1; exact ⟨v, hv1, hv2, trivial⟩) hg (fun r e => (hr r e).2) |>.imp (fun v hv => ⟨hv.1, hv.2.1⟩), own_blk h2 hg (fun r e => (hr r e).2), own_blk h3 hg (fun r e => (hr r e).2), h4, h5, h6.grown hg (by have := h6.size; omega) (fun k hk => by have := (hr k hk).1; omega)⟩
      case hIx =>
        rintro c pre X Y row ⟨hc, pre', x, err, h1, h2, h3, h4, h5, h6, h7⟩ hg hr
        exact ⟨hc, pre', x, err, h1, h2, h3, own_blk h4 hg (fun r e => (hr r e).2), own_blk h5 hg (fun r e => (hr r e).2), own_blk h6 hg (fun r e => (hr r e).2), h7.grown hg h7.size (fun k hk => by have := (hr k hk).1; omega)⟩
      case h0 => exact ⟨⟨_, g0, World.ownsRow_nil _ _ _ _⟩, g1, g2, by simp, by simp, hb3⟩
      case assign =>
        intro l x W K hK
        gi_wp2
        exact hK
      case body =>
        rintro l pre x W ⟨⟨v, hv, hrow⟩, h1, h2, hpos, hlen, hB⟩ hlt
        have hBW := hb2W.trans (hB.mono (by omega))
        obtain ⟨r1, r2, r3, r4⟩ := HB.out W hBW
        have hBw := hw0.trans (hBW.mono hw0.size)
        have hcv := hv.cell
        obtain ⟨a, c, rfl, hlr, hra⟩ := RowAt.of_own hrow
        clear hra hlr
        by_cases hx : x.2 < 0
        · obtain ⟨x1, x2⟩ := x
          have m1 := r2.cell 0
          have f1 := r2.frozen 0
          have m2 : W.cell? ⟨w.heap.size + 1 + 1, 0, none⟩ = _ := r3.cell 0
          have f2 : W.frozen? ⟨w.heap.size + 1 + 1, 0, none⟩ = _ := r3.frozen 0
          have m3 : W.cell? ⟨w.heap.size + 1 + 1 + 1, 0, none⟩ = _ := r4.cell 0
          have f3 : W.frozen? ⟨w.heap.size + 1 + 1 + 1, 0, none⟩ = _ := r4.frozen 0
          gi_wp2
          obtain ⟨q1, q2, q3, q4⟩ := blk3' r2 r3 r4 (.slice none 0 0) (.int .i64 3) (.int .i64 (x1 : Int)) hBw (Nat.le_refl _)
          exact ⟨keeps3 _ _ _ _ _ _ _ _, rfl, pre, (x1, x2), 3, rfl, hpos, .inl ⟨hx, rfl, hlen⟩, q1, q2, q3, q4⟩
        · obtain ⟨x1, x2⟩ := x
          have hx' : (0 : Int) ≤ x2 := by simpa using hx
          clear hx
          by_cases h24 : pre.length = 24
          · have d24 : ((pre.length : Int) == 24) = true := by simp [h24]
            have H24 := Lib.hid h24
            have m1 := r2.cell 0
            have f1 := r2.frozen 0
            have m2 : W.cell? ⟨w.heap.size + 1 + 1, 0, none⟩ = _ := r3.cell 0
            have f2 : W.frozen? ⟨w.heap.size + 1 + 1, 0, none⟩ = _ := r3.frozen 0
            have m3 : W.cell? ⟨w.heap.size + 1 + 1 + 1, 0, none⟩ = _ := r4.cell 0
            have f3 : W.frozen? ⟨w.heap.size + 1 + 1 + 1, 0, none⟩ = _ := r4.frozen 0
            clear h24
            gi_wp2
            obtain ⟨q1, q2, q3, q4⟩ := blk3' r2 r3 r4 (.slice none 0 0) (.int .i64 2) (.int .i64 (x1 : Int)) hBw (Nat.le_refl _)
            exact ⟨keeps3 _ _ _ _ _ _ _ _, rfl, pre, (x1, x2), 2, rfl, hpos, .inr ⟨hx', rfl, H24.out⟩, q1, q2, q3, q4⟩
          · have d24 : ((pre.length : Int) == 24) = false := by simp; omega
            have hl23 : pre.length < 24 := by omega
            have hsz : o ≤ W.heap.size := by have := hB.size; omega
            clear h24
            gi_wp2_with (gi_at_builtin; refine wpListIn_append_own _ rfl _ _ 26 rfl o 3 i0 (.int .i64 0) 1 8 Tryz.underlying26 hi hz0 hz1 hz2 rfl (by decide) _ _ _ rfl (hrow.alloc _) ⟨W.heap.size, 0, none⟩ 1 1 [.int .i64 x2] rfl rfl (cell_one_new _ _ _) (by simp [Value.oneCell']) (by unfold maxLen; omega) (by omega) (by simp; omega) ?_; intro v' w1 hown' hgrow _; obtain ⟨g', cap', rfl⟩ := ownsRow_succ hown'; obtain ⟨hv1, hv2, hr2, hk2, hb2'⟩ := hv.appended (by decide) hrow hsz (Nat.le_refl _) hown' hgrow; have hc1 := hv1.cell; have hf1 := hv1.frozen)
            have hb1' := blk_appended h1 hrow (by decide) hgrow (p := ⟨o, 0, none⟩) (by simp) (.slice (some ⟨g', 0, none⟩) (pre.length + 1) cap')
            have hb2'' := blk_appended h2 hrow (by decide) hgrow (p := ⟨o, 0, none⟩) (by show o + 1 + 1 ≠ o; omega) (.slice (some ⟨g', 0, none⟩) (pre.length + 1) cap')
            refine ⟨hk2.from _, ⟨?_, ?_, hb2'.block b hbo⟩, ⟨_, hv2, ?_⟩, hb1', hb2'', ?_, ?_, hB.trans hb2'⟩
            · exact hb2''.trans h2.symm
            · exact hb1'.trans h1.symm
            · rw [List.map_append, nums_append]
              simpa [nums] using hr2
            · intro y hy
              rcases List.mem_append.1 hy with h | h
              · exact hpos y h
              · simp at h; subst h; exact hx'
            · simp; omega
      case done =>
        rintro D ys W hD rfl ⟨⟨v, hv, hrow⟩, h1, h2, hpos, hlen, hB⟩ hK
        have hBW := hb2W.trans (hB.mono (by omega))
        obtain ⟨r1, r2, r3, r4⟩ := HB.out W hBW
        have hBw := hw0.trans (hBW.mono hw0.size)
        have hcv := hv.cell
        obtain ⟨a, c, rfl, hlr, hra⟩ := RowAt.of_own hrow
        have m1 := r2.cell 0
        have f1 := r2.frozen 0
        have m2 : W.cell? ⟨w.heap.size + 1 + 1, 0, none⟩ = _ := r3.cell 0
        have f2 : W.frozen? ⟨w.heap.size + 1 + 1, 0, none⟩ = _ := r3.frozen 0
        have m3 : W.cell? ⟨w.heap.size + 1 + 1 + 1, 0, none⟩ = _ := r4.cell 0
        have f3 : W.frozen? ⟨w.heap.size + 1 + 1 + 1, 0, none⟩ = _ := r4.frozen 0
        gi_wp2
        clear hra hlr
        have HK := Lib.hid hK
        have Hpos := Lib.hid hpos
        clear hK hpos
        obtain ⟨ys, hys⟩ : ∃ ys, lseq A.bls (s.size + 1) (bl s) 0 = ys := ⟨_, rfl⟩
        rw [hys] at hcv hlen
        go_wp2_with fail
        have hR : readA A s = ⟨ys.map (·.2), 0, 0⟩ := by
          rw [readA, if_pos Hv.out, readL, if_neg Ht.out, lread_done A.bls (s.size + 1) 24 (bl s) 0 [] ys (fun l hl => (hlen3 l hl).1) (by rw [bl_length]; omega) hys (hys ▸ Hpos.out) hlen]
          rfl
        obtain ⟨q1, q2, q3, q4⟩ := blk3' r2 r3 r4 (.slice a ys.length c) (.int .i64 0) (.int .i64 0) hBw (Nat.le_refl _)
        have hK := (keeps3 W ⟨w.heap.size + 1, 0, none⟩ ⟨w.heap.size + 1 + 1, 0, none⟩ ⟨w.heap.size + 1 + 1 + 1, 0, none⟩ (.slice a ys.length c) (.int .i64 0) (.int .i64 0) 0).same D _ (Nat.zero_le _) HK.out rfl
        refine read_mark hR rfl rfl rfl (by omega) (Nat.le_refl _) hK q1 q2 q3 ?_ q4
        rw [hys] at hrow
        have := own_base (row3 hrow (p := ⟨w.heap.size + 1, 0, none⟩) (q := ⟨w.heap.size + 1 + 1, 0, none⟩) (r := ⟨w.heap.size + 1 + 1 + 1, 0, none⟩) (by show w.heap.size + 1 < o; omega) (by show w.heap.size + 1 + 1 < o; omega) (by show w.heap.size + 1 + 1 + 1 < o; omega) (.slice a ys.length c) (.int .i64 0) (.int .i64 0)) (base' := w.heap.size) (by omega)
        simpa using this
      case stop =>
        rintro D c pre W hD hpre ⟨rfl, pre', x, err, h1, h2, h3, h4, h5, h6, h7⟩ hK
        gi_wp2
        have hR : readA A s = ⟨[], err, x.1⟩ := by
          rw [readA, if_pos Hv.out, readL, if_neg Ht.out]
          obtain ⟨rest, hrest⟩ := hpre
          rw [h1, List.append_assoc] at hrest
          have hl1 : ∀ l ∈ A.bls, 1 ≤ l.length := fun l hl => (hlen3 l hl).1
          obtain ⟨x1, x2⟩ := x
          rcases h3 with ⟨hx, rfl, hl⟩ | ⟨hx, rfl, hl⟩
          · have hx1 : x2 = -1 := by
              rcases lseq_mem A.bls (s.size + 1) (bl s) 0 (x1, x2) (by rw [← hrest]; simp) with h | h
              · simp at hx h; omega
              · exact h
            subst hx1
            exact lread_char A.bls (s.size + 1) 24 (bl s) 0 [] pre' rest x1 hl1 (by rw [bl_length]; omega) hrest.symm h2 hl
          · exact lread_full A.bls (s.size + 1) 24 (bl s) 0 [] pre' rest (x1, x2) hl1 (by rw [bl_length]; omega) hrest.symm h2 hx hl
        refine read_mark hR rfl rfl rfl (by omega) (Nat.le_refl _) hK h4 h5 h6 (World.ownsRow_nil _ _ _ _) h7
  · rw [decide_eq_false hv]
    have hK := Lib.hid (show readA A s = ⟨[], 1, 0⟩ by rw [readA, if_neg hv])
    clear hv
    go_wp2_with fail
    obtain ⟨q1, q2, q3, q4⟩ := blk3 (HB.out w1 hb1).2.1 (HB.out w1 hb1).2.2.1 (HB.out w1 hb1).2.2.2 (.slice none 0 0) (.int .i64 1) (.int .i64 0) hb1w (Nat.le_refl _)
    exact read_ret hK.out rfl rfl rfl rfl q1 q2 q3 q4

end Go.Proofs.YtielbaaaipkbdaaGreatDoor
