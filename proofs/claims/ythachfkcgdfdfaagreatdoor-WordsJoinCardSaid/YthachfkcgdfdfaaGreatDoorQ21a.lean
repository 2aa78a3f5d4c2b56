/- The row of WordsJoin and its tied card (printed by mkq.py). -/
import Derived.Test.YthachfkcgdfdfaaGreatDoorS21
import Derived.Test.YthachfkcgdfdfaaGreatDoorCards
import Derived.Test.YthachfkcgdfdfaaGreatDoorTie
import Derived.Test.YthachfkcgdfdfaaGreatDoorRG
import Derived.ProofKit
import Derived.OpenShut
import Derived.ChangeMaps5
namespace Go.Proofs.YthachfkcgdfdfaaGreatDoor
open Go.ChangeShapes Go.WideShapes Go.ChangeAt Go.RowKit Go.Joins Go.Deep
open Go.ChangeMaps (open_string shut_string)
set_option maxRecDepth 100000

theorem laidMet21 (os : Os) (args : Array Value) : laidMet Tryz.prog Rows.wordsJoinRow.laid ((laidWorld17 os).forCall (fun _ _ => 0) ⟨#[], args, []⟩).memory :=
 laidMet_of_run' 8 (by kernel_rfl) (by kernel_rfl)
theorem wit21 (os : Os) {H : Type} (enc : TypeId × Value → H) :
  (OpenSpec.ofChange Rows.wordsJoinSpec).preRow enc Tryz.prog Tryz.f8 Rows.wordsJoinRow.domain false Rows.wordsJoinRow.laid ((laidWorld17 os).forCall (fun _ _ => 0) ⟨#[], #[.slice none 0 0, .slice none 0 0, .slice none 0 0], []⟩).memory #[.slice none 0 0, .slice none 0 0, .slice none 0 0] := by
 have hw : (DataW.whole enc Tryz.prog ((laidWorld17 os).forCall (fun _ _ => 0) ⟨#[], #[.slice none 0 0, .slice none 0 0, .slice none 0 0], []⟩).memory Tryz.f8.params.toList Rows.wordsJoinSpec.vars false #[.slice none 0 0, .slice none 0 0, .slice none 0 0].toList 8).map (fun x => (x.1, x.2.1)) =
   some ([.nil, .nil, .nil], []) := by kernel_rfl
 obtain ⟨⟨x1, x2, x3⟩, hx, hx1⟩ := Option.map_eq_some_iff.1 hw
 simp only [Prod.mk.injEq] at hx1
 obtain ⟨rfl, rfl⟩ := hx1
 exact OpenSpec.preRow_of_cond 8 hx (by kernel_rfl) (fun k hk => by cases hk) (by kernel_rfl) (laidMet21 os _)

theorem contract21 (H : Type) (enc : TypeId × Value → H) (W : World) (base : Nat) (args : Array Value) (ds gs : List (DataW H)) (before : List MemPlace)
  (hval : ∀ (j : Nat) t v, Tryz.f8.params[j]? = some t → args[j]? = some v → Value.okWide Tryz.prog W .any base t v)
  (hW : DataW.Whole enc Tryz.prog Tryz.f8.params.toList Rows.wordsJoinSpec.vars false W args.toList ds gs before) :
  Calls Tryz.prog 8 args W fun e W' => ∃ v, e = .returned v ∧ Rows.wordsJoinSpec.post enc Tryz.prog Tryz.f8 false true false false W args v W' := by
 have hW' := hW
 obtain ⟨p, q, hA0, hV, rfl, _, _⟩ := hW
 have hA : DataW.TrodAll enc Tryz.prog W 0 (fun _ => true) true Tryz.f8.params.toList args.toList ds p := hA0
 rw [Tryz.params8] at hA hval
 obtain ⟨v0, v1, v2, d0, d1, d2, p0, p1, p2, rfl, rfl, rfl, h0, h1, h2⟩ := trodAll_three hA
 obtain ⟨rfl, rfl⟩ := trodVars_none hV
 have g0 := h0
 obtain ⟨a0, c0, s0, rfl, z0, k0, x0, hr0⟩ := read_shtsV (hval 0 28 v0 rfl rfl) h0
 have g1 := h1
 obtain ⟨a1, c1, s1, rfl, z1, x1, hr1⟩ := read_strsV (hval 1 29 v1 rfl rfl) h1
 have g2 := h2
 obtain ⟨a2, c2, s2, rfl, z2, x2, hr2⟩ := read_strsV (hval 2 29 v2 rfl rfl) h2
 refine (join_law s0 s1 s2 a0 a1 a2 c0 c1 c2 W z0 x0 z1 x1 z2 x2 hr0 hr1 hr2).mono fun e W' ⟨he, hb⟩ => ?_
 subst he
 have lt : ∀ x ∈ p0 ++ (p1 ++ p2), x.block < W.heap.size := fun x hx => by
  have := hW'.lt x (by simpa using hx)
  simpa using this
 have k0 := Below.trod laidOutP (by kernel_rfl) (of_decide_eq_true (by kernel_rfl)) g0 hb (fun x hx => lt x (by simp [hx]))
 have k1 := Below.trod laidOutP (by kernel_rfl) (of_decide_eq_true (by kernel_rfl)) g1 hb (fun x hx => lt x (by simp [hx]))
 have k2 := Below.trod laidOutP (by kernel_rfl) (of_decide_eq_true (by kernel_rfl)) g2 hb (fun x hx => lt x (by simp [hx]))
 refine ⟨_, rfl, _, _, _, [], p0 ++ (p1 ++ p2), [], hW', ?_, ?_, ?_, hb.frame _, fun h => by cases h⟩
 ·exact trodAll_cons_mk (shut_bool Tryz.underlying4 _) trodAll_mk0
 ·rw [Tryz.params8]
  exact trodAll_mk3 k0 k1 k2
 ·rfl

theorem lifted21 (os : Os) (started : os.Started) (H : Type) (enc : TypeId × Value → H) (F : Stop.Interp) :
  ReturnsInHanded {} Tryz.checked os 8 .any ((OpenSpec.ofChange Rows.wordsJoinSpec).preRow enc Tryz.prog Tryz.f8 Rows.wordsJoinRow.domain false Rows.wordsJoinRow.laid) (((OpenSpec.ofChange Rows.wordsJoinSpec).at F).post enc Tryz.prog Tryz.f8 false true false false) := by
 refine returnsInHanded_of_row (C := Tryz.checked) (s := OpenSpec.ofChange Rows.wordsJoinSpec) ownK started (by kernel_rfl) Tryz.func8
  (witness_row_atRef (enc := enc) (C := Tryz.checked) false (laidWorld17 os) #[.slice none 0 0, .slice none 0 0, .slice none 0 0] rfl (by kernel_rfl) (by kernel_rfl) (by kernel_rfl) (wit21 os enc)) ?_
 intro W base args ds gs before hval hW _ _ _ _ _ _
 exact contract21 H enc W base args ds gs before hval hW

end Go.Proofs.YthachfkcgdfdfaaGreatDoor
