/- A region that draws its order, in a round of a range over a function: as outside of one. -/
import Derived.Test.YtgaldlecnfekaaaGreatDoorGA
import Derived.RangeFuncNested
import Derived.RangeFuncCalls
import Derived.OrdersIn
import Derived.Deep.RegionHeld3
namespace Go.Proofs.YtgaldlecnfekaaaGreatDoor
open Go.RowKit

section
variable {P : Program} {Q : Exit → Act → World → Prop} {n l : Nat}

theorem uponIn_of_upon {o : Oper} {a : Act} {next : Act → World → Prop} {r : Result Next} (h : o.upon P a next Q r) : o.uponIn (Fence.wide.inRound l) n P a next Q r := by
  cases r with
  | ok x w =>
    cases x with
    | value v => exact h
    | skip => exact h
    | defer d => exact h
    | enter f args =>
      refine ⟨fun e => (by cases e), ?_⟩
      have h2 := CallsIn.inRound l ((callsIn_wide (n := n - 1)).2 (show Calls P f args w _ from h))
      exact CallsIn.mono h2 (fun e w'' he => by cases e <;> exact he)
    | row r args =>
      refine ⟨fun e => (by cases e), fun c cs _ => ?_⟩
      obtain ⟨v, w', hr, hs⟩ := (show Rows P r args w _ from h) c cs
      exact ⟨v, w', hr, stepsIn_wide.2 hs⟩
    | _ => exact (show False from h).elim
  | halt x w => cases x <;> exact h

theorem wpAnyIn_of_any {md : Region.Mode} {ops : Array Oper} (hd : ∀ (i : Nat) (o : Oper), ops[i]? = some o → ∀ c, o.op ≠ .defer c) (hQ : ¬ LetsOut Q) :
    ∀ (fuel : Nat) (listed : Array Bool) (a : Act) (w : World), wpAny P md ops Q fuel listed a w → wpAnyIn (Fence.wide.inRound l) n P md ops Q fuel listed a w
  | 0, _, _, _, h => h
  | fuel + 1, listed, a, w, h => ⟨h.1, fun i hi => by
    have h1 := h.2 i hi
    unfold wpOp at h1
    unfold wpOpIn
    cases ho : ops[i]? with
    | none => rw [ho] at h1; exact wpAnyIn_of_any hd hQ fuel _ _ _ h1
    | some o =>
      rw [ho] at h1
      simp only at h1 ⊢
      by_cases hw : Region.wanted o (yielded ops a.tmps) = true
      · rw [if_pos hw] at h1 ⊢
        rcases h1 with h1 | h1
        · refine ⟨fun _ _ => trivial, ?_⟩
          rw [show (o.semAt (Fence.wide.inRound l).round a.eval) = execOp a.eval o from Oper.semAt_eq _ _ _ (hd i o ho)]
          exact uponIn_of_upon (Oper.wp_mono (fun a' w' h' => wpAnyIn_of_any hd hQ fuel _ a' w' h') h1)
        · exact absurd h1.2 hQ
      · rw [if_neg hw] at h1 ⊢
        exact ⟨fun _ _ => trivial, wpAnyIn_of_any hd hQ fuel _ _ _ h1⟩⟩

/-- No operation defers. -/
def noDeferB (ops : Array Oper) : Bool := ops.toList.all fun o => match o.op with | .defer _ => false | _ => true
theorem noDefer_spec {ops : Array Oper} (h : noDeferB ops = true) : ∀ (i : Nat) (o : Oper), ops[i]? = some o → ∀ c, o.op ≠ .defer c := by
  intro i o ho c e
  have h1 := List.all_eq_true.1 h o (by rw [← Array.getElem?_toList] at ho; exact List.mem_of_getElem? ho)
  rw [e] at h1; cases h1

/-- The beginning, in a round. -/
theorem wpIn_region_held {id : Nat} {ops : Array Oper} {S : World → Prop} {a : Act} {w : World} (hm : P.follows .mixedOrders = true) (hd : noDeferB ops = true) (hQ : ¬ LetsOut Q)
    (h : wpAnyH P .any ops Q S ops.size (Array.replicate ops.size false) a w.drew) : (Code.region id ops true).wpIn (Fence.wide.inRound l) n P Q a w :=
  wpIn_region_any hm (wpAnyIn_of_any (noDefer_spec hd) hQ _ _ _ _ (wpAny_of_held _ _ _ _ h))
/-- One operation alone may come up. -/
theorem wpAnyH_one {md : Region.Mode} {ops : Array Oper} {S : World → Prop} {i fuel : Nat} {listed : Array Bool} {a : Act} {w : World} (o : Oper) (hr : Region.ready md ops listed = [i]) (ho : ops[i]? = some o) (hg : o.guard = none)
    (h : Oper.wp P o a w (fun a' w' => S w' ∧ wpAnyH P md ops Q S fuel (listed.setIfInBounds i true) a' w') Q) : wpAnyH P md ops Q S (fuel + 1) listed a w := by
  refine wpAnyH_all hr (by simp) (fun j hj => ?_)
  obtain rfl : j = i := by simpa using hj
  unfold wpOp
  rw [ho]
  simp only
  rw [if_pos (by simp [Region.wanted, hg])]
  exact .inl h
end
end Go.Proofs.YtgaldlecnfekaaaGreatDoor
