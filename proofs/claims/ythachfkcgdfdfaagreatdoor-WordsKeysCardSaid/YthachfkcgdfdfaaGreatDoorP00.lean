/- GA · UA -/
import Derived.Test.YthachfkcgdfdfaaGreatDoorProg
import Derived.WalkKit
import Derived.WalkSpells
import Derived.WalkLawsBesides
import Derived.Lib.Hide
import Derived.Maps.AppendAt
import Derived.RangeFuncNested
import Derived.RangeFuncCalls
import Derived.OrdersIn
import Derived.Deep.RegionHeld3
/- GA · Br -/
/- Base · At · W04 · At2 -/
/- Small common lemmas of the walks: results; bytes of a string; the reading of a slice whose cells lie below a block; what stays as it was. -/
namespace Go.Proofs.YthachfkcgdfdfaaGreatDoor
open Go.RowKit

theorem ret_bool {a b : Bool} (h : a = b) : Ending.returned (.bool a) = .returned (.bool b) := by rw [h]
theorem ret_int {k : IntKind} {a b : Int} (h : a = b) : Ending.returned (.int k a) = .returned (.int k b) := by rw [h]

theorem ret_dec {b : Bool} {p : Prop} [Decidable p] (h : b = true ↔ p) : Ending.returned (.bool b) = .returned (.bool (decide p)) := by
 congr 2; rw [Bool.eq_iff_iff]; simpa using h
theorem ret_yes {p : Prop} [Decidable p] (h : p) : Ending.returned (.bool true) = .returned (.bool (decide p)) := ret_dec (by simp [h])
theorem ret_no {p : Prop} [Decidable p] (h : ¬ p) : Ending.returned (.bool false) = .returned (.bool (decide p)) := ret_dec (by simp [h])

/-- The bytes of a string as a list. -/
def bl (s : ByteArray) : List UInt8 := s.data.toList
theorem bl_length (s : ByteArray) : (bl s).length = s.size := by simp [bl]
theorem bl_get (s : ByteArray) (k : Nat) (h : k < s.size) : (bl s)[k]? = some s[k] := by
 unfold bl; rw [Array.getElem?_toList]; exact Array.getElem?_eq_getElem _
theorem bl_inj {s t : ByteArray} (h : bl s = bl t) : s = t := by
 cases s; cases t; simpa [bl] using h
theorem all_take_succ {α : Type} (l : List α) (p : α → Bool) (k : Nat) (x : α) (h : l[k]? = some x) : (l.take (k + 1)).all p = ((l.take k).all p && p x) := by
 rw [List.take_add_one, h]; simp
theorem all_false_of {α : Type} (l : List α) (p : α → Bool) (k : Nat) (x : α) (h : l[k]? = some x) (hp : p x = false) : l.all p = false := by
 rw [List.all_eq_false]; exact ⟨x, List.mem_of_getElem? h, by simp [hp]⟩

end Go.Proofs.YthachfkcgdfdfaaGreatDoor

/- How rows of values that came in read: strings, ints; what stays as it was. -/
namespace Go.Proofs.YthachfkcgdfdfaaGreatDoor
open Go.RowKit

/-- A slice at address a reads as the values xs, one cell each, in a block below B. -/
def RowAt (w : World) (B : Nat) (a : Option Addr) (xs : List Value) : Prop :=
 0 < xs.length → ∃ b off, a = some ⟨b, off, none⟩ ∧ b < B ∧ ∀ i x, xs[i]? = some x → w.cell? ⟨b, off + i, none⟩ = some x

theorem RowAt.keep {w w' : World} {B : Nat} {a : Option Addr} {xs : List Value} (h : RowAt w B a xs) (hk : ∀ p : Addr, p.block < B → w'.cell? p = w.cell? p) : RowAt w' B a xs := fun hn => by
 obtain ⟨b, off, e, hb, hc⟩ := h hn
 exact ⟨b, off, e, hb, fun i x hi => (hk _ hb).trans (hc i x hi)⟩
theorem RowAt.below {w w' : World} {B B' : Nat} {a : Option Addr} {xs : List Value} (h : RowAt w B a xs) (hb : Below B' w w') (hB : B ≤ B') : RowAt w' B a xs :=
 h.keep fun _ hp => hb.cell (by omega)
theorem RowAt.alloc {w : World} {B : Nat} {a : Option Addr} {xs : List Value} (h : RowAt w B a xs) (hB : B ≤ w.heap.size) (o : Obj) : RowAt (w.alloc o) B a xs :=
 h.keep fun p hp => World.cell?_alloc_lt w o p (by omega)
theorem RowAt.drewN {w : World} {B : Nat} {a : Option Addr} {xs : List Value} (h : RowAt w B a xs) (k : Nat) : RowAt (w.drewN k) B a xs := h
theorem RowAt.more {w : World} {B B' : Nat} {a : Option Addr} {xs : List Value} (h : RowAt w B a xs) (hB : B ≤ B') : RowAt w B' a xs := fun hn => by
 obtain ⟨b, off, e, hb, hc⟩ := h hn
 exact ⟨b, off, e, by omega, hc⟩
theorem RowAt.of_own {w : World} {base : Nat} {e : TypeId} {size n : Nat} {v : Value} {xs : List Value} (h : w.ownsRow base e size v n xs) :
  ∃ a c, v = .slice a n c ∧ xs.length = n * size ∧ RowAt w w.heap.size a xs := by
 obtain ⟨hl, h1⟩ := h
 rcases h1 with ⟨rfl, rfl⟩ | ⟨g, cap, cur, rfl, hb, hh, _, _, _, ht⟩
 ·exact ⟨none, 0, rfl, hl, fun hn => by simp at hl; simp [hl] at hn⟩
 ·refine ⟨_, cap, rfl, hl, fun _ => ⟨g, 0, rfl, (Array.getElem?_eq_some_iff.1 hh).1, fun i x hx => ?_⟩⟩
  rw [cell_of_row w g (0 + i) cur e (0, 0) hh, Nat.zero_add, ← Array.getElem?_toList]
  rw [← ht, List.getElem?_take] at hx
  split at hx
  ·exact hx
  ·cases hx

def strs (ss : List ByteArray) : List Value := ss.map Value.string
def nums (zs : List Int) : List Value := zs.map (Value.int .i64)
theorem nums_append (a b : List Int) : nums (a ++ b) = nums a ++ nums b := by simp [nums]
theorem strs_append (a b : List ByteArray) : strs (a ++ b) = strs a ++ strs b := by simp [strs]
theorem RowAt.strs {w : World} {B : Nat} {a : Option Addr} {ss : List ByteArray} (h : RowAt w B a (strs ss)) (hn : 0 < ss.length) :
  ∃ b off, a = some ⟨b, off, none⟩ ∧ b < B ∧ ∀ i (h : i < ss.length), w.cell? ⟨b, off + i, none⟩ = some (.string ss[i]) := by
 obtain ⟨b, off, e, hb, hc⟩ := h (by simpa [YthachfkcgdfdfaaGreatDoor.strs] using hn)
 exact ⟨b, off, e, hb, fun i hi => hc i _ (by simp [YthachfkcgdfdfaaGreatDoor.strs, hi])⟩
theorem RowAt.nums {w : World} {B : Nat} {a : Option Addr} {zs : List Int} (h : RowAt w B a (nums zs)) (hn : 0 < zs.length) :
  ∃ b off, a = some ⟨b, off, none⟩ ∧ b < B ∧ ∀ i (h : i < zs.length), w.cell? ⟨b, off + i, none⟩ = some (.int .i64 zs[i]) := by
 obtain ⟨b, off, e, hb, hc⟩ := h (by simpa [YthachfkcgdfdfaaGreatDoor.nums] using hn)
 exact ⟨b, off, e, hb, fun i hi => hc i _ (by simp [YthachfkcgdfdfaaGreatDoor.nums, hi])⟩

/-- A slice at address a reads as rows of k cells each, in a block below B. -/
def RowsAt (w : World) (B k : Nat) (a : Option Addr) (rows : List (List Value)) : Prop :=
 0 < rows.length → ∃ b off, a = some ⟨b, off, none⟩ ∧ b < B ∧ ∀ i r, rows[i]? = some r → ∀ j x, r[j]? = some x → w.cell? ⟨b, off + i * k + j, none⟩ = some x
theorem RowsAt.keep {w w' : World} {B k : Nat} {a : Option Addr} {rows : List (List Value)} (h : RowsAt w B k a rows) (hk : ∀ p : Addr, p.block < B → w'.cell? p = w.cell? p) : RowsAt w' B k a rows := fun hn => by
 obtain ⟨b, off, e, hb, hc⟩ := h hn
 exact ⟨b, off, e, hb, fun i r hi j x hj => (hk _ hb).trans (hc i r hi j x hj)⟩
theorem RowsAt.below {w w' : World} {B B' k : Nat} {a : Option Addr} {rows : List (List Value)} (h : RowsAt w B k a rows) (hb : Below B' w w') (hB : B ≤ B') : RowsAt w' B k a rows :=
 h.keep fun _ hp => hb.cell (by omega)
theorem RowsAt.more {w : World} {B B' k : Nat} {a : Option Addr} {rows : List (List Value)} (h : RowsAt w B k a rows) (hB : B ≤ B') : RowsAt w B' k a rows := fun hn => by
 obtain ⟨b, off, e, hb, hc⟩ := h hn
 exact ⟨b, off, e, by omega, hc⟩

/-- A rule; rules. -/
structure Rul where
 src : ByteArray
 dst : ByteArray
 nxt : ByteArray
 fin : Bool
def Rul.cells (r : Rul) : List Value := [.string r.src, .string r.dst, .string r.nxt, .bool r.fin]
structure Ruls where
 src : ByteArray
 dst : ByteArray
 list : List Rul
def RulsAt (w : World) (B : Nat) (v : Value) (R : Ruls) : Prop :=
 ∃ a c, v = .agg #[.string R.src, .string R.dst, .slice a R.list.length c] ∧ R.src.size ≤ maxLen ∧ R.dst.size ≤ maxLen ∧ R.list.length ≤ maxLen ∧
  (∀ r ∈ R.list, r.src.size ≤ maxLen ∧ r.dst.size ≤ maxLen ∧ r.nxt.size ≤ maxLen) ∧ RowsAt w B 4 a (R.list.map Rul.cells)
theorem RulsAt.below {w w' : World} {B B' : Nat} {v : Value} {R : Ruls} (h : RulsAt w B v R) (hb : Below B' w w') (hB : B ≤ B') : RulsAt w' B v R := by
 obtain ⟨a, c, e, h1, h2, h3, h4, h5⟩ := h
 exact ⟨a, c, e, h1, h2, h3, h4, h5.below hb hB⟩
theorem RulsAt.more {w : World} {B B' : Nat} {v : Value} {R : Ruls} (h : RulsAt w B v R) (hB : B ≤ B') : RulsAt w B' v R := by
 obtain ⟨a, c, e, h1, h2, h3, h4, h5⟩ := h
 exact ⟨a, c, e, h1, h2, h3, h4, h5.more hB⟩
/-- What the cells of a list of rules hold. -/
theorem RowsAt.ruls {w : World} {B : Nat} {a : Option Addr} {l : List Rul} (h : RowsAt w B 4 a (l.map Rul.cells)) (hn : 0 < l.length) :
  ∃ b off, a = some ⟨b, off, none⟩ ∧ b < B ∧ ∀ i (hi : i < l.length), w.cell? ⟨b, off + i * 4, none⟩ = some (.string l[i].src) ∧ w.cell? ⟨b, off + i * 4 + 1, none⟩ = some (.string l[i].dst) ∧
   w.cell? ⟨b, off + i * 4 + 2, none⟩ = some (.string l[i].nxt) ∧ w.cell? ⟨b, off + i * 4 + 3, none⟩ = some (.bool l[i].fin) := by
 obtain ⟨b, off, e, hb, hc⟩ := h (by simpa using hn)
 refine ⟨b, off, e, hb, fun i hi => ?_⟩
 have hc' := hc i l[i].cells (by simp [hi])
 exact ⟨hc' 0 _ rfl, hc' 1 _ rfl, hc' 2 _ rfl, hc' 3 _ rfl⟩

/-- An alphabet: its name, letters and small letters. -/
structure Alph where
 name : ByteArray
 letters : List ByteArray
 small : List Int

/-- The value of an alphabet reads as A. -/
def AlphAt (w : World) (B : Nat) (v : Value) (A : Alph) : Prop :=
 ∃ la lc sa sc, v = .agg #[.string A.name, .slice la A.letters.length lc, .slice sa A.small.length sc] ∧ A.name.size ≤ maxLen ∧ A.letters.length ≤ maxLen ∧ A.small.length ≤ maxLen ∧ (∀ s ∈ A.letters, s.size ≤ maxLen) ∧ RowAt w B la (strs A.letters) ∧ RowAt w B sa (nums A.small)

theorem AlphAt.below {w w' : World} {B B' : Nat} {v : Value} {A : Alph} (h : AlphAt w B v A) (hb : Below B' w w') (hB : B ≤ B') : AlphAt w' B v A := by
 obtain ⟨la, lc, sa, sc, e, h1, h2, h3, h4, h5, h6⟩ := h
 exact ⟨la, lc, sa, sc, e, h1, h2, h3, h4, h5.below hb hB, h6.below hb hB⟩
theorem AlphAt.more {w : World} {B B' : Nat} {v : Value} {A : Alph} (h : AlphAt w B v A) (hB : B ≤ B') : AlphAt w B' v A := by
 obtain ⟨la, lc, sa, sc, e, h1, h2, h3, h4, h5, h6⟩ := h
 exact ⟨la, lc, sa, sc, e, h1, h2, h3, h4, h5.more hB, h6.more hB⟩
theorem grown_of_below {a w : World} (h : Below a.heap.size a w) (row : Option Nat) : a.grownBy w row := ⟨h.os, h.tape, h.output, h.size, fun i hi _ => h.block i hi⟩
theorem own_below {a w : World} {base : Nat} {e : TypeId} {size n : Nat} {v : Value} {xs : List Value} (h : a.ownsRow base e size v n xs) (hb : Below a.heap.size a w) : w.ownsRow base e size v n xs :=
 h.kept (grown_of_below hb none) (by cases v.ownBlock <;> simp)
theorem own_drew {w : World} {base : Nat} {e : TypeId} {size n : Nat} {v : Value} {xs : List Value} (h : w.ownsRow base e size v n xs) : w.drew.ownsRow base e size v n xs := h

theorem own_base {w : World} {base base' : Nat} {e : TypeId} {size n : Nat} {v : Value} {xs : List Value} (h : w.ownsRow base e size v n xs) (hb : base' ≤ base) : w.ownsRow base' e size v n xs := by
 obtain ⟨h1, h2 | ⟨g, cap, cur, e, hg, h3⟩⟩ := h
 ·exact ⟨h1, .inl h2⟩
 ·exact ⟨h1, .inr ⟨g, cap, cur, e, Nat.le_trans hb hg, h3⟩⟩

/-- Block b holds the values cs (a variable of the call's own). -/
def Box (w : World) (b : Nat) (cs : List Value) : Prop := ∀ j x, cs[j]? = some x → w.cell? ⟨b, j, none⟩ = some x
theorem Box.new (w : World) (cs : List Value) (t : TypeId) : Box (w.alloc (.cells cs.toArray t)) w.heap.size cs := fun j x hx => by
 rw [cell_of_row _ _ j _ _ _ (heap_alloc_new w _)]; simpa using hx
theorem Box.below {w w' : World} {b B : Nat} {cs : List Value} (h : Box w b cs) (hb : Below B w w') (hB : b < B) : Box w' b cs :=
 fun j x hx => (hb.cell (p := ⟨b, j, none⟩) hB).trans (h j x hx)
theorem Box.alloc {w : World} {b : Nat} {cs : List Value} (h : Box w b cs) (hb : b < w.heap.size) (o : Obj) : Box (w.alloc o) b cs :=
 h.below ((Below.refl w.heap.size w).alloc (Nat.le_refl _) o) hb
theorem Box.c2 {w : World} {b : Nat} {x y : Value} (h : Box w b [x, y]) : w.cell? ⟨b, 0, none⟩ = some x ∧ w.cell? ⟨b, 1, none⟩ = some y := ⟨h 0 _ rfl, h 1 _ rfl⟩
theorem Box.c3 {w : World} {b : Nat} {x y z : Value} (h : Box w b [x, y, z]) : w.cell? ⟨b, 0, none⟩ = some x ∧ w.cell? ⟨b, 1, none⟩ = some y ∧ w.cell? ⟨b, 2, none⟩ = some z := ⟨h 0 _ rfl, h 1 _ rfl, h 2 _ rfl⟩
end Go.Proofs.YthachfkcgdfdfaaGreatDoor

/- Walks of the reference's names (gazetteerref04). -/
namespace Go.Proofs.YthachfkcgdfdfaaGreatDoor
open Go.RowKit

def letterB (c : Int) : Bool := decide (97 ≤ c) && decide (c ≤ 122) || decide (65 ≤ c) && decide (c ≤ 90)
def digitB (c : Int) : Bool := decide (48 ≤ c) && decide (c ≤ 57)
def wordB (c : Int) : Bool := letterB c || digitB c || c == 95

/-- A name: a letter, then letters, digits and '_', 1 to 24 bytes. -/
def nameB (l : List UInt8) : Bool := l.all (fun c => wordB c.toNat) && decide (0 < l.length) && decide (l.length ≤ 24) && letterB ((l[0]?.getD 0).toNat)

end Go.Proofs.YthachfkcgdfdfaaGreatDoor

/- Blocks of the call's own side by side: a block that is known whole, rows whose element types differ. -/
namespace Go.Proofs.YthachfkcgdfdfaaGreatDoor
open Go.RowKit

/-- Block b is just the cells cs of element type t. -/
def Blk (w : World) (b : Nat) (cs : Array Value) (t : TypeId) : Prop := w.heap[b]? = some (.cells cs t (0, 0))
section
variable {w w' : World} {b : Nat} {cs : Array Value} {t : TypeId}
theorem Blk.new (w : World) (cs : Array Value) (t : TypeId) : Blk (w.alloc (.cells cs t)) w.heap.size cs t := heap_alloc_new w _
theorem Blk.lt (h : Blk w b cs t) : b < w.heap.size := (Array.getElem?_eq_some_iff.1 h).1
theorem Blk.cell (h : Blk w b cs t) (i : Nat) : w.cell? ⟨b, i, none⟩ = cs[i]? := cell_of_row w b i cs t (0, 0) h
theorem Blk.frozen (h : Blk w b cs t) (i : Nat) : w.frozen? ⟨b, i, none⟩ = false := by unfold Blk at h; simp [World.frozen?, h]
theorem Blk.below {B : Nat} (h : Blk w b cs t) (hb : Below B w w') (hB : b < B) : Blk w' b cs t := (hb.block b hB).trans h
theorem Blk.alloc (h : Blk w b cs t) (o : Obj) : Blk (w.alloc o) b cs t := h.below ((Below.refl w.heap.size w).alloc (Nat.le_refl _) o) h.lt
theorem Blk.drewN (h : Blk w b cs t) (n : Nat) : Blk (w.drewN n) b cs t := h
theorem Blk.set_ (h : Blk w b cs t) (i : Nat) (u : Value) : Blk (w.setCell ⟨b, i, none⟩ u) b (cs.setIfInBounds i u) t := by
 unfold Blk at h ⊢
 simp [World.setCell, Array.getElem?_modify, h]
theorem Blk.far (h : Blk w b cs t) {p : Addr} (hp : b ≠ p.block) (u : Value) : Blk (w.setCell p u) b cs t := (Below.heap_setCell w p u b hp).trans h
theorem Blk.grown {row : Option Nat} (h : Blk w b cs t) (hg : w.grownBy w' row) (hne : some b ≠ row) : Blk w' b cs t := (hg.block b h.lt hne).trans h
theorem Blk.own_ne {base : Nat} {e : TypeId} {size n : Nat} {v : Value} {xs : List Value} (h : Blk w b cs t) (ho : w.ownsRow base e size v n xs) (hne : e ≠ t) : v.ownBlock ≠ some b := by
 rcases ho.2 with ⟨rfl, _⟩ | ⟨g, cap, cur, rfl, _, hh, _⟩
 ·simp [Value.ownBlock]
 ·intro he
  have : g = b := by simpa [Value.ownBlock] using he
  subst this
  unfold Blk at h
  rw [hh] at h
  injection h with h
  injection h with _ h
  exact hne h
end
theorem own_ne {w : World} {base base' : Nat} {e e' : TypeId} {size size' n n' : Nat} {v v' : Value} {xs xs' : List Value} (h : w.ownsRow base e size v n xs) (h' : w.ownsRow base' e' size' v' n' xs') (hne : e ≠ e') :
  v.ownBlock = none ∨ v.ownBlock ≠ v'.ownBlock := by
 rcases h.2 with ⟨rfl, _⟩ | ⟨g, cap, cur, rfl, _, hh, _⟩
 ·exact .inl rfl
 ·refine .inr fun he => ?_
  have hb : Blk w g cur e := hh
  exact hb.own_ne h' (fun e => hne e.symm) (by rw [← he]; rfl)
theorem own_kept_other {w w' : World} {base base' : Nat} {e e' : TypeId} {size size' n n' : Nat} {v v' : Value} {xs xs' : List Value} (h : w.ownsRow base e size v n xs) (h' : w.ownsRow base' e' size' v' n' xs') (hne : e ≠ e')
  (hg : w.grownBy w' v'.ownBlock) : w'.ownsRow base e size v n xs := h.kept hg (own_ne h h' hne)
theorem own_setCell {w : World} {base : Nat} {e : TypeId} {size n : Nat} {v : Value} {xs : List Value} (h : w.ownsRow base e size v n xs) {p : Addr} (hp : v.ownBlock ≠ some p.block) (u : Value) : (w.setCell p u).ownsRow base e size v n xs := by
 refine h.kept (row := some p.block) ⟨rfl, rfl, rfl, by simp [World.setCell], fun k _ hne => Below.heap_setCell w p u k (fun e => hne (by rw [e]))⟩ ?_
 cases hv : v.ownBlock with
 | none => exact .inl rfl
 | some k => exact .inr (fun e => hp (by rw [hv, e]))
end Go.Proofs.YthachfkcgdfdfaaGreatDoor

/- A region that draws its order, in a round of a range over a function: as outside of one. -/
namespace Go.Proofs.YthachfkcgdfdfaaGreatDoor
open Go.RowKit

section
variable {P : Program} {Q : Exit → Act → World → Prop} {n l : Nat}

theorem uponIn_of_upon {o : Oper} {a : Act} {next : Act → World → Prop} {r : Result Next} (h : o.upon P a next Q r) : o.uponIn (Fence.wide.inRound l) n P a next Q r := by
 cases r with
 | ok x w =>
  cases x with
  | value v => exact h
  | skip => exact h
  | defer d => exact h
  | enter f args =>
   refine ⟨fun e => (by cases e), ?_⟩
   have h2 := CallsIn.inRound l ((callsIn_wide (n := n - 1)).2 (show Calls P f args w _ from h))
   exact CallsIn.mono h2 (fun e w'' he => by cases e <;> exact he)
  | row r args =>
   refine ⟨fun e => (by cases e), fun c cs _ => ?_⟩
   obtain ⟨v, w', hr, hs⟩ := (show Rows P r args w _ from h) c cs
   exact ⟨v, w', hr, stepsIn_wide.2 hs⟩
  | _ => exact (show False from h).elim
 | halt x w => cases x <;> exact h

theorem wpAnyIn_of_any {md : Region.Mode} {ops : Array Oper} (hd : ∀ (i : Nat) (o : Oper), ops[i]? = some o → ∀ c, o.op ≠ .defer c) (hQ : ¬ LetsOut Q) :
  ∀ (fuel : Nat) (listed : Array Bool) (a : Act) (w : World), wpAny P md ops Q fuel listed a w → wpAnyIn (Fence.wide.inRound l) n P md ops Q fuel listed a w
 | 0, _, _, _, h => h
 | fuel + 1, listed, a, w, h => ⟨h.1, fun i hi => by
  have h1 := h.2 i hi
  unfold wpOp at h1
  unfold wpOpIn
  cases ho : ops[i]? with
  | none => rw [ho] at h1; exact wpAnyIn_of_any hd hQ fuel _ _ _ h1
  | some o =>
   rw [ho] at h1
   simp only at h1 ⊢
   by_cases hw : Region.wanted o (yielded ops a.tmps) = true
   ·rw [if_pos hw] at h1 ⊢
    rcases h1 with h1 | h1
    ·refine ⟨fun _ _ => trivial, ?_⟩
     rw [show (o.semAt (Fence.wide.inRound l).round a.eval) = execOp a.eval o from Oper.semAt_eq _ _ _ (hd i o ho)]
     exact uponIn_of_upon (Oper.wp_mono (fun a' w' h' => wpAnyIn_of_any hd hQ fuel _ a' w' h') h1)
    ·exact absurd h1.2 hQ
   ·rw [if_neg hw] at h1 ⊢
    exact ⟨fun _ _ => trivial, wpAnyIn_of_any hd hQ fuel _ _ _ h1⟩⟩

/-- No operation defers. -/
def noDeferB (ops : Array Oper) : Bool := ops.toList.all fun o => match o.op with | .defer _ => false | _ => true
theorem noDefer_spec {ops : Array Oper} (h : noDeferB ops = true) : ∀ (i : Nat) (o : Oper), ops[i]? = some o → ∀ c, o.op ≠ .defer c := by
 intro i o ho c e
 have h1 := List.all_eq_true.1 h o (by rw [← Array.getElem?_toList] at ho; exact List.mem_of_getElem? ho)
 rw [e] at h1; cases h1

/-- The beginning, in a round. -/
theorem wpIn_region_held {id : Nat} {ops : Array Oper} {S : World → Prop} {a : Act} {w : World} (hm : P.follows .mixedOrders = true) (hd : noDeferB ops = true) (hQ : ¬ LetsOut Q)
  (h : wpAnyH P .any ops Q S ops.size (Array.replicate ops.size false) a w.drew) : (Code.region id ops true).wpIn (Fence.wide.inRound l) n P Q a w :=
 wpIn_region_any hm (wpAnyIn_of_any (noDefer_spec hd) hQ _ _ _ _ (wpAny_of_held _ _ _ _ h))
end
end Go.Proofs.YthachfkcgdfdfaaGreatDoor
/- Plain words: abbreviations: what words are spelled as, and at which costs. No program in sight. -/
namespace Go.Proofs.YthachfkcgdfdfaaGreatDoor
open Go Classical

def denP (r : Nat) : Bool := decide (r < 33) || decide (126 < r)
def denC (c : UInt8) : Bool := decide (33 ≤ c.toNat) && decide (c.toNat ≤ 126)
def denB (l : List UInt8) : Bool := l.all denC
/-- A text of 1 to some bytes, all of them to be seen. -/
def Dense (s : ByteArray) (b : Nat) : Prop := denB (bl s) = true ∧ 1 ≤ s.size ∧ s.size ≤ b
/-- An abbreviation. -/
structure Sht where
 lang : ByteArray
 short : ByteArray
 full : ByteArray
 cost : Int
/-- A text at a cost, among texts; the lesser cost stays. -/
noncomputable def putC (l : List (ByteArray × Int)) (t : ByteArray) (c : Int) : List (ByteArray × Int) :=
 if t ∈ l.map (·.1) then l.map (fun p => if p.1 = t then (p.1, min p.2 c) else p) else l ++ [(t, c)]
/-- What a word becomes, at the least cost each, in the order in which they are found. -/
noncomputable def chs (l : List Sht) (w : ByteArray) : List (ByteArray × Int) := l.foldl (fun a s => if s.short = w then putC a s.full s.cost else a) [(w, 0)]
/-- A cost of writing w as t. -/
def CostIn (l : List Sht) (w t : ByteArray) (c : Int) : Prop := (t = w ∧ c = 0) ∨ ∃ s ∈ l, s.short = w ∧ s.full = t ∧ s.cost = c
def Least (S : Int → Prop) (c : Int) : Prop := S c ∧ ∀ d, S d → c ≤ d
theorem Least.uniq {S : Int → Prop} {c d : Int} (h : Least S c) (k : Least S d) : c = d := by
 have := h.2 d k.1
 have := k.2 c h.1
 omega
theorem putC_fst {l : List (ByteArray × Int)} {t : ByteArray} {c : Int} : (putC l t c).map (·.1) = if t ∈ l.map (·.1) then l.map (·.1) else l.map (·.1) ++ [t] := by
 unfold putC
 split
 ·rw [List.map_map]
  refine List.map_congr_left (fun p _ => ?_)
  simp only [Function.comp_apply]
  split <;> rfl
 ·simp
theorem putC_nodup {l : List (ByteArray × Int)} {t : ByteArray} {c : Int} (h : (l.map (·.1)).Nodup) : ((putC l t c).map (·.1)).Nodup := by
 rw [putC_fst]
 split
 ·exact h
 ·rename_i hn
  refine List.nodup_append.2 ⟨h, by simp, fun a ha b hb e => ?_⟩
  obtain rfl := List.mem_singleton.1 hb
  exact hn (e ▸ ha)
/-- What stands in the row so far: the least costs of some set of pairs. -/
structure ChI (S : ByteArray → Int → Prop) (a : List (ByteArray × Int)) : Prop where
 nodup : (a.map (·.1)).Nodup
 mem : ∀ t c, (t, c) ∈ a ↔ Least (S t) c
theorem ChI.put {S : ByteArray → Int → Prop} {a : List (ByteArray × Int)} (h : ChI S a) (hex : ∀ t d, S t d → ∃ c, Least (S t) c) (t : ByteArray) (c : Int) : ChI (fun u d => S u d ∨ (u = t ∧ d = c)) (putC a t c) := by
 refine ⟨putC_nodup h.nodup, fun u d => ?_⟩
 unfold putC
 by_cases ht : t ∈ a.map (·.1)
 ·rw [if_pos ht]
  obtain ⟨⟨t', c0⟩, hm, e⟩ := List.mem_map.1 ht
  simp only at e
  subst e
  have h0 := (h.mem t' c0).1 hm
  rw [List.mem_map]
  constructor
  ·rintro ⟨⟨p1, p2⟩, hp, e⟩
   have hp' := (h.mem p1 p2).1 hp
   split at e
   ·rename_i e1
    simp only at e1
    subst e1
    simp only [Prod.mk.injEq] at e
    obtain ⟨rfl, rfl⟩ := e
    have e2 := hp'.uniq h0
    subst e2
    refine ⟨?_, ?_⟩
    ·rcases Int.le_total p2 c with h1 | h1
     ·rw [Int.min_eq_left h1]; exact .inl hp'.1
     ·rw [Int.min_eq_right h1]; exact .inr ⟨rfl, rfl⟩
    ·rintro d (h1 | ⟨_, rfl⟩)
     ·have := hp'.2 d h1; omega
     ·omega
   ·rename_i e1
    simp only at e1
    obtain ⟨rfl, rfl⟩ := Prod.mk.inj e
    exact ⟨.inl hp'.1, fun d hd => hd.elim (hp'.2 d) (fun q => absurd q.1 e1)⟩
  ·rintro ⟨h1, h2⟩
   by_cases e : u = t'
   ·subst e
    refine ⟨(u, c0), hm, ?_⟩
    simp only [if_pos, Prod.mk.injEq, true_and]
    have h3 := h2 c0 (.inl h0.1)
    have h4 := h2 c (.inr ⟨rfl, rfl⟩)
    rcases h1 with h1 | ⟨_, h1⟩
    ·have := h0.2 d h1; omega
    ·omega
   ·refine ⟨(u, d), (h.mem u d).2 ⟨h1.resolve_right (fun q => e q.1), fun d' hd' => h2 d' (.inl hd')⟩, ?_⟩
    rw [if_neg e]
 ·rw [if_neg ht, List.mem_append, List.mem_singleton, h.mem]
  have hno : ∀ d, ¬ S t d := fun d hd => by
   obtain ⟨c', hc'⟩ := hex t d hd
   exact ht (List.mem_map.2 ⟨(t, c'), (h.mem t c').2 hc', rfl⟩)
  constructor
  ·rintro (h1 | h1)
   ·exact ⟨.inl h1.1, fun d' hd' => hd'.elim (h1.2 d') (fun q => absurd (q.1 ▸ h1.1) (hno d))⟩
   ·obtain ⟨rfl, rfl⟩ := Prod.mk.inj h1
    exact ⟨.inr ⟨rfl, rfl⟩, fun d' hd' => hd'.elim (fun q => absurd q (hno d')) (fun q => by rw [q.2]; exact Int.le_refl _)⟩
  ·rintro ⟨h1 | ⟨rfl, rfl⟩, h2⟩
   ·exact .inl ⟨h1, fun d' hd' => h2 d' (.inl hd')⟩
   ·exact .inr rfl
theorem ChI.ex {S : ByteArray → Int → Prop} (hex : ∀ t d, S t d → ∃ c, Least (S t) c) (t : ByteArray) (c : Int) : ∀ u d, (S u d ∨ (u = t ∧ d = c)) → ∃ e, Least (fun d => S u d ∨ (u = t ∧ d = c)) e := by
 intro u d hd
 by_cases hS : ∃ d', S u d'
 ·obtain ⟨d', hd'⟩ := hS
  obtain ⟨m, hm⟩ := hex u d' hd'
  by_cases e : u = t
  ·subst e
   rcases Int.le_total m c with h1 | h1
   ·exact ⟨m, .inl hm.1, fun d hd => hd.elim (hm.2 d) (fun q => by rw [q.2]; exact h1)⟩
   ·exact ⟨c, .inr ⟨rfl, rfl⟩, fun d hd => hd.elim (fun q => Int.le_trans h1 (hm.2 d q)) (fun q => by rw [q.2]; exact Int.le_refl _)⟩
  ·exact ⟨m, .inl hm.1, fun d hd => hd.elim (hm.2 d) (fun q => absurd q.1 e)⟩
 ·rcases hd with hd | ⟨rfl, rfl⟩
  ·exact absurd ⟨d, hd⟩ hS
  ·exact ⟨d, .inr ⟨rfl, rfl⟩, fun d' hd' => hd'.elim (fun q => absurd ⟨d', q⟩ hS) (fun q => by rw [q.2]; exact Int.le_refl _)⟩
theorem ChI.congr {S T : ByteArray → Int → Prop} {a : List (ByteArray × Int)} (h : ChI S a) (hST : ∀ t c, S t c ↔ T t c) : ChI T a := by
 have : S = T := funext fun t => funext fun c => propext (hST t c)
 rw [← this]; exact h
theorem chs_inv (w : ByteArray) : ∀ (l : List Sht) (a : List (ByteArray × Int)) (S : ByteArray → Int → Prop), ChI S a → (∀ t d, S t d → ∃ c, Least (S t) c) →
  ChI (fun t c => S t c ∨ ∃ s ∈ l, s.short = w ∧ s.full = t ∧ s.cost = c) (l.foldl (fun a s => if s.short = w then putC a s.full s.cost else a) a)
 | [], _, S, h, _ => h.congr (fun t c => by simp)
 | s :: l, a, S, h, hex => by
  rw [List.foldl_cons]
  by_cases e : s.short = w
  ·rw [if_pos e]
   refine (chs_inv w l _ _ (h.put hex s.full s.cost) (ChI.ex hex s.full s.cost)).congr (fun t c => ?_)
   simp only [List.mem_cons, exists_eq_or_imp, or_assoc]
   constructor
   ·rintro (q | ⟨rfl, rfl⟩ | q)
    ·exact .inl q
    ·exact .inr (.inl ⟨e, rfl, rfl⟩)
    ·exact .inr (.inr q)
   ·rintro (q | ⟨_, rfl, rfl⟩ | q)
    ·exact .inl q
    ·exact .inr (.inl ⟨rfl, rfl⟩)
    ·exact .inr (.inr q)
  ·rw [if_neg e]
   refine (chs_inv w l _ _ h hex).congr (fun t c => ?_)
   simp only [List.mem_cons, exists_eq_or_imp]
   constructor
   ·rintro (q | q)
    ·exact .inl q
    ·exact .inr (.inr q)
   ·rintro (q | ⟨q, _⟩ | q)
    ·exact .inl q
    ·exact absurd q e
    ·exact .inr q
theorem chs_is (l : List Sht) (w : ByteArray) : ChI (CostIn l w) (chs l w) := by
 refine (chs_inv w l [(w, 0)] (fun t c => t = w ∧ c = 0) ⟨by simp, fun t c => ?_⟩ ?_).congr (fun t c => Iff.rfl)
 ·simp only [List.mem_singleton, Prod.mk.injEq]
  constructor
  ·rintro ⟨rfl, rfl⟩; exact ⟨⟨rfl, rfl⟩, fun d hd => by rw [hd.2]; exact Int.le_refl _⟩
  ·rintro ⟨h, _⟩; exact h
 ·rintro t d ⟨rfl, rfl⟩
  exact ⟨0, ⟨rfl, rfl⟩, fun d hd => by rw [hd.2]; exact Int.le_refl _⟩
/-- Rows of one set of least costs are alike but for their order. -/
theorem ChI.perm {S : ByteArray → Int → Prop} {a b : List (ByteArray × Int)} (h : ChI S a) (k : ChI S b) : a.Perm b := by
 have nd : ∀ {a : List (ByteArray × Int)}, (a.map (·.1)).Nodup → a.Nodup := fun {a} q => by
  have := List.pairwise_map.1 q
  exact this.imp (fun hne e => hne (by rw [e]))
 refine (List.perm_ext_iff_of_nodup (nd h.nodup) (nd k.nodup)).2 (fun p => ?_)
 obtain ⟨t, c⟩ := p
 rw [h.mem, k.mem]

/-- One choice for each word. -/
inductive Picks : List (List (ByteArray × Int)) → List (ByteArray × Int) → Prop
 | nil : Picks [] []
 | cons {C : List (ByteArray × Int)} {Cs : List (List (ByteArray × Int))} {p : ByteArray × Int} {ps : List (ByteArray × Int)} : p ∈ C → Picks Cs ps → Picks (C :: Cs) (p :: ps)
def sumC (ps : List (ByteArray × Int)) : Int := (ps.map (·.2)).foldr (· + ·) 0
theorem sumC_cons (p : ByteArray × Int) (ps : List (ByteArray × Int)) : sumC (p :: ps) = p.2 + sumC ps := rfl
/-- All that goes on from what stands so far. -/
def exts : List (List (ByteArray × Int)) → List ByteArray → Int → List (List ByteArray × Int)
 | [], s, c => [(s, c)]
 | C :: Cs, s, c => C.flatMap (fun p => exts Cs (s ++ [p.1]) (c + p.2))
theorem mem_exts : ∀ {Cs : List (List (ByteArray × Int))} {s : List ByteArray} {c : Int} {x : List ByteArray × Int}, x ∈ exts Cs s c ↔ ∃ ps, Picks Cs ps ∧ x = (s ++ ps.map (·.1), c + sumC ps)
 | [], s, c, x => by
  rw [exts, List.mem_singleton]
  constructor
  ·rintro rfl; exact ⟨[], .nil, by simp [sumC]⟩
  ·rintro ⟨ps, h, rfl⟩; cases h; simp [sumC]
 | C :: Cs, s, c, x => by
  rw [exts, List.mem_flatMap]
  constructor
  ·rintro ⟨p, hp, hx⟩
   obtain ⟨ps, h, rfl⟩ := mem_exts.1 hx
   exact ⟨p :: ps, .cons hp h, by rw [sumC_cons, List.map_cons, List.append_assoc]; simp [Int.add_assoc]⟩
  ·rintro ⟨ps, h, rfl⟩
   cases h with
   | cons hp h =>
    rename_i p ps
    refine ⟨p, hp, mem_exts.2 ⟨ps, h, ?_⟩⟩
    rw [sumC_cons, List.map_cons, List.append_assoc]; simp [Int.add_assoc]
def prodN (Cs : List (List (ByteArray × Int))) : Nat := (Cs.map List.length).foldr (· * ·) 1
theorem exts_length : ∀ (Cs : List (List (ByteArray × Int))) (s : List ByteArray) (c : Int), (exts Cs s c).length = prodN Cs
 | [], s, c => rfl
 | C :: Cs, s, c => by
  rw [exts, List.length_flatMap]
  have : C.map (fun p => (exts Cs (s ++ [p.1]) (c + p.2)).length) = C.map (fun _ => prodN Cs) := List.map_congr_left (fun p _ => exts_length Cs _ _)
  rw [this]
  show _ = C.length * prodN Cs
  clear this
  induction C with
  | nil => simp
  | cons p C ih => rw [List.map_cons, List.sum_cons, ih, List.length_cons, Nat.succ_mul, Nat.add_comm]
end Go.Proofs.YthachfkcgdfdfaaGreatDoor
