/- The row of ComposeMatchesReference and its tied card (printed by mkq.py). -/
import Derived.Test.YtfihjpffjdnahaaGreatDoorQA
import Derived.Test.YtfihjpffjdnahaaGreatDoorCards
import Derived.Test.YtfihjpffjdnahaaGreatDoorTie
import Derived.Test.YtfihjpffjdnahaaGreatDoorE5
import Derived.ProofKit
import Derived.OpenShut
import Derived.ChangeMaps5
namespace Go.Proofs.YtfihjpffjdnahaaGreatDoor
open Go.ChangeShapes Go.WideShapes Go.ChangeAt Go.RowKit Go.Joins Go.Deep
open Go.ChangeMaps (open_string shut_string)
set_option maxRecDepth 100000

theorem laidMet15 (os : Os) (args : Array Value) : laidMet Tryz.prog Rows.composeMatchesReferenceRow.laid ((laidWorld os).forCall (fun _ _ => 0) ⟨#[], args, []⟩).memory :=
 laidMet_of_run' 8 (by kernel_rfl) (by kernel_rfl)
theorem wit15 (os : Os) {H : Type} (enc : TypeId × Value → H) :
  (OpenSpec.ofChange Rows.composeMatchesReferenceSpec).preRow enc Tryz.prog Tryz.f3 Rows.composeMatchesReferenceRow.domain false Rows.composeMatchesReferenceRow.laid ((laidWorld os).forCall (fun _ _ => 0) ⟨#[], #[noMach, noMach, noAlph], []⟩).memory #[noMach, noMach, noAlph] := by
 have hw : (DataW.whole enc Tryz.prog ((laidWorld os).forCall (fun _ _ => 0) ⟨#[], #[noMach, noMach, noAlph], []⟩).memory Tryz.f3.params.toList Rows.composeMatchesReferenceSpec.vars false #[noMach, noMach, noAlph].toList 8).map (fun x => (x.1, x.2.1)) =
   some ([.agg [.lit (.int .i64 0), .lit (.int .i64 0), .nil, .nil], .agg [.lit (.int .i64 0), .lit (.int .i64 0), .nil, .nil], .agg [.lit (.string []), .nil, .nil]], []) := by kernel_rfl
 obtain ⟨⟨x1, x2, x3⟩, hx, hx1⟩ := Option.map_eq_some_iff.1 hw
 simp only [Prod.mk.injEq] at hx1
 obtain ⟨rfl, rfl⟩ := hx1
 exact OpenSpec.preRow_of_cond 8 hx (by kernel_rfl) (fun k hk => by cases hk) (by kernel_rfl) (laidMet15 os _)

theorem contract15 (H : Type) (enc : TypeId × Value → H) (W : World) (base : Nat) (args : Array Value) (ds gs : List (DataW H)) (before : List MemPlace)
  (hval : ∀ (j : Nat) t v, Tryz.f3.params[j]? = some t → args[j]? = some v → Value.okWide Tryz.prog W .any base t v)
  (hW : DataW.Whole enc Tryz.prog Tryz.f3.params.toList Rows.composeMatchesReferenceSpec.vars false W args.toList ds gs before) :
  Calls Tryz.prog 3 args W fun e W' => ∃ v, e = .returned v ∧ Rows.composeMatchesReferenceSpec.post enc Tryz.prog Tryz.f3 false true false false W args v W' := by
 have hW' := hW
 obtain ⟨p, q, hA0, hV, rfl, _, _⟩ := hW
 have hA : DataW.TrodAll enc Tryz.prog W 0 (fun _ => true) true Tryz.f3.params.toList args.toList ds p := hA0
 rw [Tryz.params3] at hA hval
 obtain ⟨v0, v1, v2, d0, d1, d2, p0, p1, p2, rfl, rfl, rfl, h0, h1, h2⟩ := trodAll_three hA
 obtain ⟨rfl, rfl⟩ := trodVars_none hV
 have g0 := h0
 obtain ⟨M0, hr0⟩ := read_Mach (hval 0 25 v0 rfl rfl) h0
 have g1 := h1
 obtain ⟨M1, hr1⟩ := read_Mach (hval 1 25 v1 rfl rfl) h1
 have g2 := h2
 obtain ⟨M2, hr2⟩ := read_Alph (hval 2 28 v2 rfl rfl) h2
 refine (matches_any M0 v0 M1 v1 M2 v2 W hr0 hr1 hr2).mono fun e W' ⟨he, hb⟩ => ?_
 subst he
 have lt : ∀ x ∈ p0 ++ (p1 ++ p2), x.block < W.heap.size := fun x hx => by
  have := hW'.lt x (by simpa using hx)
  simpa using this
 have k0 := Below.trod laidOutP (by kernel_rfl) (of_decide_eq_true (by kernel_rfl)) g0 hb (fun x hx => lt x (by simp [hx]))
 have k1 := Below.trod laidOutP (by kernel_rfl) (of_decide_eq_true (by kernel_rfl)) g1 hb (fun x hx => lt x (by simp [hx]))
 have k2 := Below.trod laidOutP (by kernel_rfl) (of_decide_eq_true (by kernel_rfl)) g2 hb (fun x hx => lt x (by simp [hx]))
 refine ⟨_, rfl, _, _, _, [], p0 ++ (p1 ++ p2), [], hW', ?_, ?_, ?_, hb.frame _, fun h => by cases h⟩
 ·exact trodAll_cons_mk (shut_bool Tryz.underlying4 _) trodAll_mk0
 ·rw [Tryz.params3]
  exact trodAll_mk3 k0 k1 k2
 ·rfl

theorem lifted15 (os : Os) (started : os.Started) (H : Type) (enc : TypeId × Value → H) (F : Stop.Interp) :
  ReturnsInHanded {} Tryz.checked os 3 .any ((OpenSpec.ofChange Rows.composeMatchesReferenceSpec).preRow enc Tryz.prog Tryz.f3 Rows.composeMatchesReferenceRow.domain false Rows.composeMatchesReferenceRow.laid) (((OpenSpec.ofChange Rows.composeMatchesReferenceSpec).at F).post enc Tryz.prog Tryz.f3 false true false false) := by
 refine returnsInHanded_of_row (C := Tryz.checked) (s := OpenSpec.ofChange Rows.composeMatchesReferenceSpec) ownK started (by kernel_rfl) Tryz.func3
  (witness_row_atRef (enc := enc) (C := Tryz.checked) false (laidWorld os) #[noMach, noMach, noAlph] rfl (by kernel_rfl) (by kernel_rfl) (by kernel_rfl) (wit15 os enc)) ?_
 intro W base args ds gs before hval hW _ _ _ _ _ _
 exact contract15 H enc W base args ds gs before hval hW

theorem said15 : Rows.ComposeMatchesReferenceSaid :=
 OpenClaim.holds_of_cond 3 Tryz.f3 rfl rfl rfl rfl rfl rfl rfl ⟨rfl, rfl, rfl, rfl, rfl⟩ rfl rfl rfl rfl rfl (by kernel_rfl) Tryz.func3 (by kernel_rfl)
  (of_decide_eq_true (by kernel_rfl)) (by unfold Func.isWrapper; first | (rw [if_pos (by decide +kernel)]; kernel_rfl) | (rw [if_neg (by decide +kernel)]; exact ⟨rfl, rfl⟩))
  (fun os started H enc _ F => by rw [OpenClaim.pre_eq_preRow]; exact lifted15 os started H enc F)

theorem plain15 (f : FuncId) (fn : Func) (hf : Tryz.pinned.checked.prog.funcNamed "gazetteer/gazetteerlaw14.ComposeMatchesReference" = some f) (hfn : Tryz.pinned.checked.prog.funcs[f]? = some fn) :
  true = Tryz.pinned.checked.prog.looks [] ∧ ∀ (j : Nat) t, fn.params[j]? = some t → Tryz.pinned.checked.prog.wantsStandIn t = false := by
 obtain rfl : f = 3 := Option.some.inj ((show Tryz.prog.funcNamed "gazetteer/gazetteerlaw14.ComposeMatchesReference" = some 3 by kernel_rfl).symm.trans hf) |>.symm
 obtain rfl : fn = Tryz.f3 := (Option.some.inj (Tryz.func3.symm.trans hfn)).symm
 refine ⟨by kernel_rfl, fun j t ht => ?_⟩
 rw [Tryz.params3] at ht
 have : t = 25 ∨ t = 25 ∨ t = 28 := by simpa using Array.mem_of_getElem? ht
 rcases this with rfl | rfl | rfl
 ·exact (show Tryz.prog.wantsStandIn 25 = false by kernel_rfl)
 ·exact (show Tryz.prog.wantsStandIn 25 = false by kernel_rfl)
 ·exact (show Tryz.prog.wantsStandIn 28 = false by kernel_rfl)

/-- The card. -/
theorem composeMatchesReference_card : Rows.ComposeMatchesReferenceCardSaid :=
 Claim7.holds_tied_plain_at .later [] _ _ _ _ said15 (fun _ h => by cases h) (by kernel_rfl) (fun _ h => by cases h) composeMatchesReference_row_tie rfl ⟨rfl, rfl⟩ (by kernel_rfl) rfl plain15 (by kernel_rfl)
#print axioms composeMatchesReference_card
end Go.Proofs.YtfihjpffjdnahaaGreatDoor
