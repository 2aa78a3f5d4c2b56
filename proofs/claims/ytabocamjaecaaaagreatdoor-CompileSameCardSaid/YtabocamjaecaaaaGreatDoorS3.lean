/- Plain words: what is written, place by place and rule by rule. No program in sight. -/
import Derived.Test.YtabocamjaecaaaaGreatDoorSW
namespace Go.Proofs.YtabocamjaecaaaaGreatDoor
open Go Classical

section
variable {L : List (List UInt8)} {all : List RulL} {w : List Int}
/-- A step of a rule from a place. -/
def StepW (L : List (List UInt8)) (w : List Int) (k : Nat) (s : List UInt8) (x : RulL) (j : Nat) (t : List UInt8) : Prop :=
 Stands L x (w.drop k) ∧ j = k + (rdL L x.src).length ∧ t = s ++ x.dst
/-- What is written at a place by steps from places before k. -/
def WriK (L : List (List UInt8)) (all : List RulL) (w : List Int) (k j : Nat) (t : List UInt8) : Prop :=
 (j = 0 ∧ t = []) ∨ ∃ k' s x, k' < k ∧ k' < w.length ∧ Writ L all w k' s ∧ x ∈ all ∧ StepW L w k' s x j t
/-- .. and by some rules from k. -/
def WriX (L : List (List UInt8)) (all : List RulL) (w : List Int) (k : Nat) (done : List RulL) (j : Nat) (t : List UInt8) : Prop :=
 WriK L all w k j t ∨ ∃ s x, Writ L all w k s ∧ x ∈ done ∧ StepW L w k s x j t
/-- .. and by a rule from some texts at k. -/
def WriS (L : List (List UInt8)) (all : List RulL) (w : List Int) (k : Nat) (done : List RulL) (x : RulL) (sd : List (List UInt8)) (j : Nat) (t : List UInt8) : Prop :=
 WriX L all w k done j t ∨ ∃ s ∈ sd, j = k + (rdL L x.src).length ∧ t = s ++ x.dst
theorem writ_last {k : Nat} {t : List UInt8} : Writ L all w k t ↔ (k = 0 ∧ t = []) ∨ ∃ k' s x, k' < w.length ∧ Writ L all w k' s ∧ x ∈ all ∧ StepW L w k' s x k t := by
 constructor
 ·intro h
  cases h with
  | zero => exact .inl ⟨rfl, rfl⟩
  | step h1 h2 h3 h4 => exact .inr ⟨_, _, _, h2, h1, h3, h4, rfl, rfl⟩
 ·rintro (⟨rfl, rfl⟩ | ⟨k', s, x, h2, h1, h3, h4, rfl, rfl⟩)
  ·exact .zero
  ·exact .step h1 h2 h3 h4
/-- At its own place, all is written. -/
theorem wriK_own (hT : Told L) (hl : ∀ x ∈ all, x.lett L) {k : Nat} {t : List UInt8} : WriK L all w k k t ↔ Writ L all w k t := by
 rw [writ_last]
 constructor
 ·rintro (h | ⟨k', s, x, _, h2, h1, h3, h4⟩)
  ·exact .inl h
  ·exact .inr ⟨k', s, x, h2, h1, h3, h4⟩
 ·rintro (h | ⟨k', s, x, h2, h1, h3, h4⟩)
  ·exact .inl h
  ·have := rd_pos hT (hl x h3).src
   have h5 : k = k' + (rdL L x.src).length := h4.2.1
   exact .inr ⟨k', s, x, by omega, h2, h1, h3, h4⟩
theorem wriX_nil {k j : Nat} {t : List UInt8} : WriX L all w k [] j t ↔ WriK L all w k j t := by simp [WriX]
theorem wriX_skip {k j : Nat} {t : List UInt8} {done : List RulL} {x : RulL} (h : ¬ Stands L x (w.drop k)) : WriX L all w k (done ++ [x]) j t ↔ WriX L all w k done j t := by
 unfold WriX
 constructor
 ·rintro (q | ⟨s, y, q1, q2, q3⟩)
  ·exact .inl q
  ·rcases List.mem_append.1 q2 with q2 | q2
   ·exact .inr ⟨s, y, q1, q2, q3⟩
   ·obtain rfl := List.mem_singleton.1 q2
    exact absurd q3.1 h
 ·rintro (q | ⟨s, y, q1, q2, q3⟩)
  ·exact .inl q
  ·exact .inr ⟨s, y, q1, List.mem_append.2 (.inl q2), q3⟩
theorem wriS_nil {k j : Nat} {t : List UInt8} {done : List RulL} {x : RulL} : WriS L all w k done x [] j t ↔ WriX L all w k done j t := by simp [WriS]
theorem wriS_snoc {k j : Nat} {t s : List UInt8} {done : List RulL} {x : RulL} {sd : List (List UInt8)} : WriS L all w k done x (sd ++ [s]) j t ↔ WriS L all w k done x sd j t ∨ (j = k + (rdL L x.src).length ∧ t = s ++ x.dst) := by
 unfold WriS
 constructor
 ·rintro (q | ⟨s', q1, q2⟩)
  ·exact .inl (.inl q)
  ·rcases List.mem_append.1 q1 with q1 | q1
   ·exact .inl (.inr ⟨s', q1, q2⟩)
   ·obtain rfl := List.mem_singleton.1 q1
    exact .inr q2
 ·rintro ((q | ⟨s', q1, q2⟩) | q)
  ·exact .inl q
  ·exact .inr ⟨s', List.mem_append.2 (.inl q1), q2⟩
  ·exact .inr ⟨s, by simp, q⟩
theorem wriS_done {k j : Nat} {t : List UInt8} {done : List RulL} {x : RulL} {sd : List (List UInt8)} (h : Stands L x (w.drop k)) (hs : ∀ s, s ∈ sd ↔ Writ L all w k s) : WriS L all w k done x sd j t ↔ WriX L all w k (done ++ [x]) j t := by
 unfold WriS WriX
 constructor
 ·rintro ((q | ⟨s, y, q1, q2, q3⟩) | ⟨s, q1, q2⟩)
  ·exact .inl q
  ·exact .inr ⟨s, y, q1, List.mem_append.2 (.inl q2), q3⟩
  ·exact .inr ⟨s, x, (hs s).1 q1, by simp, h, q2⟩
 ·rintro (q | ⟨s, y, q1, q2, q3⟩)
  ·exact .inl (.inl q)
  ·rcases List.mem_append.1 q2 with q2 | q2
   ·exact .inl (.inr ⟨s, y, q1, q2, q3⟩)
   ·obtain rfl := List.mem_singleton.1 q2
    exact .inr ⟨s, (hs s).2 q1, q3.2⟩
theorem wriX_all {k j : Nat} {t : List UInt8} (hk : k < w.length) : WriX L all w k all j t ↔ WriK L all w (k + 1) j t := by
 unfold WriX WriK
 constructor
 ·rintro ((q | ⟨k', s, x, q1, q2, q3, q4, q5⟩) | ⟨s, x, q1, q2, q3⟩)
  ·exact .inl q
  ·exact .inr ⟨k', s, x, by omega, q2, q3, q4, q5⟩
  ·exact .inr ⟨k, s, x, by omega, hk, q1, q2, q3⟩
 ·rintro (q | ⟨k', s, x, q1, q2, q3, q4, q5⟩)
  ·exact .inl (.inl q)
  ·rcases Nat.lt_or_ge k' k with h | h
   ·exact .inl (.inr ⟨k', s, x, h, q2, q3, q4, q5⟩)
   ·obtain rfl : k' = k := by omega
    exact .inr ⟨s, x, q3, q4, q5⟩
/-- A step leads on, and not beyond the end. -/
theorem stands_on (hT : Told L) {x : RulL} (hl : x.lett L) {k : Nat} (h : Stands L x (w.drop k)) : 0 < (rdL L x.src).length ∧ k + (rdL L x.src).length ≤ w.length ∨ w.length ≤ k := by
 have h1 := rd_pos hT hl.src
 have h2 := h.1
 rw [List.length_drop] at h2
 omega
theorem writ_size (hT : Told L) (hl : ∀ x ∈ all, x.lett L ∧ x.dst.length ≤ 9) {k : Nat} {t : List UInt8} (h : Writ L all w k t) : t.length ≤ 9 * k ∧ k ≤ w.length := by
 induction h with
 | zero => exact ⟨Nat.zero_le _, Nat.zero_le _⟩
 | @step k s x _ hk hx hs ih =>
  obtain ⟨h1, h2⟩ := hl x hx
  have h3 := rd_pos hT h1.src
  have h4 := hs.1
  rw [List.length_drop] at h4
  rw [List.length_append]
  omega
end
end Go.Proofs.YtabocamjaecaaaaGreatDoor
