/- The row of CompileSame and its tied card. -/
import Derived.Test.YtabocamjaecaaaaGreatDoorQA
import Derived.Test.YtabocamjaecaaaaGreatDoorCards
import Derived.Test.YtabocamjaecaaaaGreatDoorTie
import Derived.Test.YtabocamjaecaaaaGreatDoorNC
import Derived.ProofKit
import Derived.OpenShut
import Derived.ChangeMaps5
namespace Go.Proofs.YtabocamjaecaaaaGreatDoor
open Go.ChangeShapes Go.WideShapes Go.ChangeAt Go.RowKit Go.Joins Go.Deep
open Go.ChangeMaps (open_string shut_string)
set_option maxRecDepth 100000

theorem laidMet11 (os : Os) (args : Array Value) : laidMet Tryz.prog Rows.compileSameRow.laid ((laidWorld os).forCall (fun _ _ => 0) ⟨#[], args, []⟩).memory :=
 laidMet_of_run' 8 (by kernel_rfl) (by kernel_rfl)
theorem wit11 (os : Os) {H : Type} (enc : TypeId × Value → H) :
  (OpenSpec.ofChange Rows.compileSameSpec).preRow enc Tryz.prog Tryz.f4 Rows.compileSameRow.domain false Rows.compileSameRow.laid ((laidWorld os).forCall (fun _ _ => 0) ⟨#[], #[noRules, noAlph, noAlph, .string ⟨#[]⟩], []⟩).memory #[noRules, noAlph, noAlph, .string ⟨#[]⟩] := by
 have hw : (DataW.whole enc Tryz.prog ((laidWorld os).forCall (fun _ _ => 0) ⟨#[], #[noRules, noAlph, noAlph, .string ⟨#[]⟩], []⟩).memory Tryz.f4.params.toList Rows.compileSameSpec.vars false #[noRules, noAlph, noAlph, .string ⟨#[]⟩].toList 8).map (fun x => (x.1, x.2.1)) =
   some ([.agg [.lit (.string []), .lit (.string []), .nil], .agg [.lit (.string []), .nil, .nil], .agg [.lit (.string []), .nil, .nil], .lit (.string [])], []) := by kernel_rfl
 obtain ⟨⟨x1, x2, x3⟩, hx, hx1⟩ := Option.map_eq_some_iff.1 hw
 simp only [Prod.mk.injEq] at hx1
 obtain ⟨rfl, rfl⟩ := hx1
 exact OpenSpec.preRow_of_cond 8 hx (by kernel_rfl) (fun k hk => by cases hk) (by kernel_rfl) (laidMet11 os _)

theorem contract11 (H : Type) (enc : TypeId × Value → H) (W : World) (base : Nat) (args : Array Value) (ds gs : List (DataW H)) (before : List MemPlace)
  (hval : ∀ (j : Nat) t v, Tryz.f4.params[j]? = some t → args[j]? = some v → Value.okWide Tryz.prog W .any base t v)
  (hW : DataW.Whole enc Tryz.prog Tryz.f4.params.toList Rows.compileSameSpec.vars false W args.toList ds gs before) :
  Calls Tryz.prog 4 args W fun e W' => ∃ v, e = .returned v ∧ Rows.compileSameSpec.post enc Tryz.prog Tryz.f4 false true false false W args v W' := by
 have hW' := hW
 obtain ⟨p, q, hA0, hV, rfl, _, _⟩ := hW
 have hA : DataW.TrodAll enc Tryz.prog W 0 (fun _ => true) true Tryz.f4.params.toList args.toList ds p := hA0
 rw [Tryz.params4] at hA hval
 obtain ⟨v0, v1, v2, v3, d0, d1, d2, d3, p0, p1, p2, p3, rfl, rfl, rfl, h0, h1, h2, h3⟩ := trodAll_four hA
 obtain ⟨rfl, rfl⟩ := trodVars_none hV
 have h0' := h0
 obtain ⟨R, hR⟩ := read_Rules (hval 0 24 v0 rfl rfl) h0
 obtain ⟨A, hAl⟩ := read_Alph (hval 1 28 v1 rfl rfl) h1
 obtain ⟨B, hB⟩ := read_Alph (hval 2 28 v2 rfl rfl) h2
 have h3' := h3
 obtain ⟨s, rfl, _, _, hs⟩ := open_string Tryz.underlying9 (hval 3 9 v3 rfl rfl) h3
 refine (law11_any R A B s hs v0 v1 v2 W hR hAl hB).mono fun e W' ⟨he, hb⟩ => ?_
 subst he
 have lt : ∀ x ∈ p0 ++ (p1 ++ (p2 ++ p3)), x.block < W.heap.size := fun x hx => by
  have := hW'.lt x (by simpa using hx)
  simpa using this
 have k0 := Below.trod laidOutP (by kernel_rfl) (of_decide_eq_true (by kernel_rfl)) h0' hb (fun x hx => lt x (by simp [hx]))
 have k1 := Below.trod laidOutP (by kernel_rfl) (of_decide_eq_true (by kernel_rfl)) h1 hb (fun x hx => lt x (by simp [hx]))
 have k2 := Below.trod laidOutP (by kernel_rfl) (of_decide_eq_true (by kernel_rfl)) h2 hb (fun x hx => lt x (by simp [hx]))
 have k3 := Below.trod laidOutP (by kernel_rfl) (of_decide_eq_true (by kernel_rfl)) h3' hb (fun x hx => lt x (by simp [hx]))
 refine ⟨_, rfl, _, _, _, [], p0 ++ (p1 ++ (p2 ++ p3)), [], hW', ?_, ?_, ?_, hb.frame _, fun h => by cases h⟩
 ·exact trodAll_cons_mk (shut_bool Tryz.underlying4 _) trodAll_mk0
 ·rw [Tryz.params4]
  exact trodAll_mk4 k0 k1 k2 k3
 ·rfl

theorem lifted11 (os : Os) (started : os.Started) (H : Type) (enc : TypeId × Value → H) (F : Stop.Interp) :
  ReturnsInHanded {} Tryz.checked os 4 .any ((OpenSpec.ofChange Rows.compileSameSpec).preRow enc Tryz.prog Tryz.f4 Rows.compileSameRow.domain false Rows.compileSameRow.laid) (((OpenSpec.ofChange Rows.compileSameSpec).at F).post enc Tryz.prog Tryz.f4 false true false false) := by
 refine returnsInHanded_of_row (C := Tryz.checked) (s := OpenSpec.ofChange Rows.compileSameSpec) ownK started (by kernel_rfl) Tryz.func4
  (witness_row_atRef (enc := enc) (C := Tryz.checked) false (laidWorld os) #[noRules, noAlph, noAlph, .string ⟨#[]⟩] rfl (by kernel_rfl) (by kernel_rfl) (by kernel_rfl) (wit11 os enc)) ?_
 intro W base args ds gs before hval hW _ _ _ _ _ _
 exact contract11 H enc W base args ds gs before hval hW

theorem said11 : Rows.CompileSameSaid :=
 OpenClaim.holds_of_cond 4 Tryz.f4 rfl rfl rfl rfl rfl rfl rfl ⟨rfl, rfl, rfl, rfl, rfl⟩ rfl rfl rfl rfl rfl (by kernel_rfl) Tryz.func4 (by kernel_rfl)
  (of_decide_eq_true (by kernel_rfl)) (by unfold Func.isWrapper; first | (rw [if_pos (by decide +kernel)]; kernel_rfl) | (rw [if_neg (by decide +kernel)]; exact ⟨rfl, rfl⟩))
  (fun os started H enc _ F => by rw [OpenClaim.pre_eq_preRow]; exact lifted11 os started H enc F)

theorem plain11 (f : FuncId) (fn : Func) (hf : Tryz.pinned.checked.prog.funcNamed "gazetteer/gazetteerlaw13.CompileSame" = some f) (hfn : Tryz.pinned.checked.prog.funcs[f]? = some fn) :
  true = Tryz.pinned.checked.prog.looks [] ∧ ∀ (j : Nat) t, fn.params[j]? = some t → Tryz.pinned.checked.prog.wantsStandIn t = false := by
 obtain rfl : f = 4 := Option.some.inj ((show Tryz.prog.funcNamed "gazetteer/gazetteerlaw13.CompileSame" = some 4 by kernel_rfl).symm.trans hf) |>.symm
 obtain rfl : fn = Tryz.f4 := (Option.some.inj (Tryz.func4.symm.trans hfn)).symm
 refine ⟨by kernel_rfl, fun j t ht => ?_⟩
 rw [Tryz.params4] at ht
 have : t = 24 ∨ t = 28 ∨ t = 28 ∨ t = 9 := by simpa using Array.mem_of_getElem? ht
 rcases this with rfl | rfl | rfl | rfl
 ·exact (show Tryz.prog.wantsStandIn 24 = false by kernel_rfl)
 ·exact (show Tryz.prog.wantsStandIn 28 = false by kernel_rfl)
 ·exact (show Tryz.prog.wantsStandIn 28 = false by kernel_rfl)
 ·exact (show Tryz.prog.wantsStandIn 9 = false by kernel_rfl)

/-- The card. -/
theorem compileSame_card : Rows.CompileSameCardSaid :=
 Claim7.holds_tied_plain_at .later [] _ _ _ _ said11 (fun _ h => by cases h) (by kernel_rfl) (fun _ h => by cases h) compileSame_row_tie rfl ⟨rfl, rfl⟩ (by kernel_rfl) rfl plain11 (by kernel_rfl)
#print axioms compileSame_card
end Go.Proofs.YtabocamjaecaaaaGreatDoor
