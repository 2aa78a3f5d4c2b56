/- GA · UC -/
import Derived.Test.YthachfkcgdfdfaaGreatDoorIter
import Derived.Test.YthachfkcgdfdfaaGreatDoorP00
import Derived.Test.YthachfkcgdfdfaaGreatDoorP01
import Derived.Test.YthachfkcgdfdfaaGreatDoorP03
import Derived.Test.YthachfkcgdfdfaaGreatDoorP04
import Derived.Test.YthachfkcgdfdfaaGreatDoorP05
import Derived.Test.YthachfkcgdfdfaaGreatDoorP06
import Derived.Test.YthachfkcgdfdfaaGreatDoorP07
import Derived.Test.YthachfkcgdfdfaaGreatDoorP08
import Derived.Test.YthachfkcgdfdfaaGreatDoorP09
import Derived.Test.YthachfkcgdfdfaaGreatDoorP10
import Derived.Test.YthachfkcgdfdfaaGreatDoorP11
import Derived.Test.YthachfkcgdfdfaaGreatDoorP12
import Derived.Test.YthachfkcgdfdfaaGreatDoorP13
import Derived.Test.YthachfkcgdfdfaaGreatDoorP14
import Derived.Test.YthachfkcgdfdfaaGreatDoorP15
import Derived.Test.YthachfkcgdfdfaaGreatDoorP16
import Derived.Test.YthachfkcgdfdfaaGreatDoorP17
import Derived.Test.YthachfkcgdfdfaaGreatDoorP18
import Derived.Test.YthachfkcgdfdfaaGreatDoorP19
import Derived.Test.YthachfkcgdfdfaaGreatDoorP20
import Derived.Test.YthachfkcgdfdfaaGreatDoorP21
import Derived.Test.YthachfkcgdfdfaaGreatDoorP22
import Derived.Test.YthachfkcgdfdfaaGreatDoorP23
import Derived.Test.YthachfkcgdfdfaaGreatDoorP24
import Derived.Test.YthachfkcgdfdfaaGreatDoorP25
import Derived.Test.YthachfkcgdfdfaaGreatDoorP26
import Derived.Test.YthachfkcgdfdfaaGreatDoorP28
import Derived.Test.YthachfkcgdfdfaaGreatDoorP29
import Derived.Test.YthachfkcgdfdfaaGreatDoorP30
import Derived.Test.YthachfkcgdfdfaaGreatDoorShelf
import Derived.Test.YthachfkcgdfdfaaGreatDoorSort
import Derived.Test.YthachfkcgdfdfaaGreatDoorSortX
import Derived.WalkKit
import Derived.WalkSpells
import Derived.WalkLawsBesides
import Derived.Lib.Hide
import Derived.Maps.AppendAt
import Derived.RangeFuncNested
import Derived.RangeFuncCalls
import Derived.OrdersIn
import Derived.Deep.RegionHeld3
namespace Go.Proofs.YthachfkcgdfdfaaGreatDoor
open Go.RowKit

end Go.Proofs.YthachfkcgdfdfaaGreatDoor

namespace Go.Proofs.YthachfkcgdfdfaaGreatDoor
open Go.RowKit

theorem AlphAt.alloc {w : World} {B : Nat} {v : Value} {A : Alph} (h : AlphAt w B v A) (hB : B ≤ w.heap.size) (o : Obj) : AlphAt (w.alloc o) B v A :=
 h.below ((Below.refl _ _).alloc hB o) (Nat.le_refl _)
end Go.Proofs.YthachfkcgdfdfaaGreatDoor

namespace Go.Proofs.YthachfkcgdfdfaaGreatDoor
open Go.RowKit

end Go.Proofs.YthachfkcgdfdfaaGreatDoor

namespace Go.Proofs.YthachfkcgdfdfaaGreatDoor
open Go.RowKit

section
variable {w w' : World} {b : Nat} {cs : Array Value} {t : TypeId}
end
end Go.Proofs.YthachfkcgdfdfaaGreatDoor

namespace Go.Proofs.YthachfkcgdfdfaaGreatDoor
open Go.RowKit

section
variable {P : Program} {Q : Exit → Act → World → Prop} {n l : Nat}

end
end Go.Proofs.YthachfkcgdfdfaaGreatDoor
namespace Go.Proofs.YthachfkcgdfdfaaGreatDoor
open Go Classical

section
variable {Cs Ds : List (List (ByteArray × Int))} {ps qs : List (ByteArray × Int)}
theorem Picks.length (h : Picks Cs ps) : ps.length = Cs.length := by
 induction h with
 | nil => rfl
 | cons _ _ ih => rw [List.length_cons, List.length_cons, ih]
theorem Picks.get (h : Picks Cs ps) : ∀ {k : Nat} {p : ByteArray × Int}, ps[k]? = some p → ∃ C, Cs[k]? = some C ∧ p ∈ C := by
 induction h with
 | nil => intro k p h; simp at h
 | cons hp _ ih =>
  intro k p h
  cases k with
  | zero => simp at h; subst h; exact ⟨_, rfl, hp⟩
  | succ k => exact ih (by simpa using h)
theorem Picks.append (h : Picks Cs ps) (k : Picks Ds qs) : Picks (Cs ++ Ds) (ps ++ qs) := by
 induction h with
 | nil => exact k
 | cons hp _ ih => exact .cons hp ih
end
section
variable {l m : List Sht} {W V : List ByteArray}
variable {all : List (List ByteArray × Int)}
/-- What is known of the lists, where there is no error. -/
structure Spelt (l : List Sht) (W : List ByteArray) (all : List (List ByteArray × Int)) : Prop where
 ok : Proper l
 plain : Plain W
 few : prodN (chsW l W) ≤ 64
 sorted : SortedX all
 len : all.length = prodN (chsW l W)
 mem : ∀ x, x ∈ all ↔ ∃ ps, Picks (chsW l W) ps ∧ x = (ps.map (·.1), sumC ps)
theorem chsW_get {k : Nat} {w : ByteArray} (h : W[k]? = some w) : (chsW l W)[k]? = some (chs l w) := by
 unfold chsW; rw [List.getElem?_map, h]; rfl
theorem Spelt.length (h : Spelt l W all) {x : List ByteArray × Int} (hx : x ∈ all) : x.1.length = W.length ∧ 0 ≤ x.2 := by
 obtain ⟨ps, h1, rfl⟩ := (h.mem _).1 hx
 refine ⟨by rw [List.length_map, h1.length]; unfold chsW; rw [List.length_map], ?_⟩
 have : ∀ {Cs : List (List (ByteArray × Int))} {ps : List (ByteArray × Int)}, Picks Cs ps → (∀ C ∈ Cs, ∀ p ∈ C, 0 ≤ p.2) → 0 ≤ sumC ps := by
  intro Cs ps hp
  induction hp with
  | nil => intro _; exact Int.le_refl _
  | cons hp _ ih =>
   intro hC
   rw [sumC_cons]
   have := hC _ (List.mem_cons_self ..) _ hp
   have := ih (fun C hC' => hC C (List.mem_cons_of_mem _ hC'))
   omega
 refine this h1 (fun C hC p hp => ?_)
 obtain ⟨w, _, rfl⟩ := List.mem_map.1 hC
 exact cost_pos h.ok (((chs_is l w).mem p.1 p.2).1 hp).1
/-- Each word is the one at its place, or the Full of an abbreviation of it. -/
theorem Spelt.each (h : Spelt l W all) {x : List ByteArray × Int} (hx : x ∈ all) {k : Nat} {t w : ByteArray} (ht : x.1[k]? = some t) (hw : W[k]? = some w) : t = w ∨ ∃ s ∈ l, s.short = w ∧ s.full = t := by
 obtain ⟨ps, h1, rfl⟩ := (h.mem _).1 hx
 rw [List.getElem?_map] at ht
 obtain ⟨p, hp, rfl⟩ := Option.map_eq_some_iff.1 ht
 obtain ⟨C, hC, hpC⟩ := h1.get hp
 rw [chsW_get hw] at hC
 obtain rfl := Option.some.inj hC
 rcases (((chs_is l w).mem p.1 p.2).1 hpC).1 with ⟨e, _⟩ | ⟨s, hs, e1, e2, _⟩
 ·exact .inl e
 ·exact .inr ⟨s, hs, e1, e2⟩
end
end Go.Proofs.YthachfkcgdfdfaaGreatDoor
