/- The row of WordsKeys and its tied card (printed by mkq.py). -/
import Derived.Test.YthachfkcgdfdfaaGreatDoorS18
import Derived.Test.YthachfkcgdfdfaaGreatDoorCards
import Derived.Test.YthachfkcgdfdfaaGreatDoorTie
import Derived.Test.YthachfkcgdfdfaaGreatDoorRK
import Derived.ProofKit
import Derived.OpenShut
import Derived.ChangeMaps5
namespace Go.Proofs.YthachfkcgdfdfaaGreatDoor
open Go.ChangeShapes Go.WideShapes Go.ChangeAt Go.RowKit Go.Joins Go.Deep
open Go.ChangeMaps (open_string shut_string)
set_option maxRecDepth 100000

theorem laidMet18 (os : Os) (args : Array Value) : laidMet Tryz.prog Rows.wordsKeysRow.laid ((laidWorld17 os).forCall (fun _ _ => 0) ⟨#[], args, []⟩).memory :=
 laidMet_of_run' 8 (by kernel_rfl) (by kernel_rfl)
theorem wit18 (os : Os) {H : Type} (enc : TypeId × Value → H) :
  (OpenSpec.ofChange Rows.wordsKeysSpec).preRow enc Tryz.prog Tryz.f5 Rows.wordsKeysRow.domain false Rows.wordsKeysRow.laid ((laidWorld17 os).forCall (fun _ _ => 0) ⟨#[], #[.agg #[.slice none 0 0, .slice none 0 0], .agg #[.string ⟨#[]⟩, .int .i64 0, .string ⟨#[]⟩]], []⟩).memory #[.agg #[.slice none 0 0, .slice none 0 0], .agg #[.string ⟨#[]⟩, .int .i64 0, .string ⟨#[]⟩]] := by
 have hw : (DataW.whole enc Tryz.prog ((laidWorld17 os).forCall (fun _ _ => 0) ⟨#[], #[.agg #[.slice none 0 0, .slice none 0 0], .agg #[.string ⟨#[]⟩, .int .i64 0, .string ⟨#[]⟩]], []⟩).memory Tryz.f5.params.toList Rows.wordsKeysSpec.vars false #[.agg #[.slice none 0 0, .slice none 0 0], .agg #[.string ⟨#[]⟩, .int .i64 0, .string ⟨#[]⟩]].toList 8).map (fun x => (x.1, x.2.1)) =
   some ([.agg [.nil, .nil], .agg [.lit (.string []), .lit (.int .i64 0), .lit (.string [])]], []) := by kernel_rfl
 obtain ⟨⟨x1, x2, x3⟩, hx, hx1⟩ := Option.map_eq_some_iff.1 hw
 simp only [Prod.mk.injEq] at hx1
 obtain ⟨rfl, rfl⟩ := hx1
 exact OpenSpec.preRow_of_cond 8 hx (by kernel_rfl) (fun k hk => by cases hk) (by kernel_rfl) (laidMet18 os _)

theorem contract18 (H : Type) (enc : TypeId × Value → H) (W : World) (base : Nat) (args : Array Value) (ds gs : List (DataW H)) (before : List MemPlace)
  (hval : ∀ (j : Nat) t v, Tryz.f5.params[j]? = some t → args[j]? = some v → Value.okWide Tryz.prog W .any base t v)
  (hW : DataW.Whole enc Tryz.prog Tryz.f5.params.toList Rows.wordsKeysSpec.vars false W args.toList ds gs before) :
  Calls Tryz.prog 5 args W fun e W' => ∃ v, e = .returned v ∧ Rows.wordsKeysSpec.post enc Tryz.prog Tryz.f5 false true false false W args v W' := by
 have hW' := hW
 obtain ⟨p, q, hA0, hV, rfl, _, _⟩ := hW
 have hA : DataW.TrodAll enc Tryz.prog W 0 (fun _ => true) true Tryz.f5.params.toList args.toList ds p := hA0
 rw [Tryz.params5] at hA hval
 obtain ⟨v0, v1, d0, d1, p0, p1, rfl, rfl, rfl, h0, h1⟩ := trodAll_two hA
 obtain ⟨rfl, rfl⟩ := trodVars_none hV
 have g0 := h0
 obtain ⟨s0, hr0⟩ := read_Brid (hval 0 25 v0 rfl rfl) h0
 have g1 := h1
 obtain ⟨s1, i1, t1, rfl, x1, z1⟩ := read_Name (hval 1 27 v1 rfl rfl) h1
 refine (keys_law s0 v0 s1 i1 t1 W hr0 x1 z1).mono fun e W' ⟨he, hb⟩ => ?_
 subst he
 have lt : ∀ x ∈ p0 ++ p1, x.block < W.heap.size := fun x hx => by
  have := hW'.lt x (by simpa using hx)
  simpa using this
 have k0 := Below.trod laidOutP (by kernel_rfl) (of_decide_eq_true (by kernel_rfl)) g0 hb (fun x hx => lt x (by simp [hx]))
 have k1 := Below.trod laidOutP (by kernel_rfl) (of_decide_eq_true (by kernel_rfl)) g1 hb (fun x hx => lt x (by simp [hx]))
 refine ⟨_, rfl, _, _, _, [], p0 ++ p1, [], hW', ?_, ?_, ?_, hb.frame _, fun h => by cases h⟩
 ·exact trodAll_cons_mk (shut_bool Tryz.underlying4 _) trodAll_mk0
 ·rw [Tryz.params5]
  exact trodAll_mk2 k0 k1
 ·rfl

theorem lifted18 (os : Os) (started : os.Started) (H : Type) (enc : TypeId × Value → H) (F : Stop.Interp) :
  ReturnsInHanded {} Tryz.checked os 5 .any ((OpenSpec.ofChange Rows.wordsKeysSpec).preRow enc Tryz.prog Tryz.f5 Rows.wordsKeysRow.domain false Rows.wordsKeysRow.laid) (((OpenSpec.ofChange Rows.wordsKeysSpec).at F).post enc Tryz.prog Tryz.f5 false true false false) := by
 refine returnsInHanded_of_row (C := Tryz.checked) (s := OpenSpec.ofChange Rows.wordsKeysSpec) ownK started (by kernel_rfl) Tryz.func5
  (witness_row_atRef (enc := enc) (C := Tryz.checked) false (laidWorld17 os) #[.agg #[.slice none 0 0, .slice none 0 0], .agg #[.string ⟨#[]⟩, .int .i64 0, .string ⟨#[]⟩]] rfl (by kernel_rfl) (by kernel_rfl) (by kernel_rfl) (wit18 os enc)) ?_
 intro W base args ds gs before hval hW _ _ _ _ _ _
 exact contract18 H enc W base args ds gs before hval hW

end Go.Proofs.YthachfkcgdfdfaaGreatDoor
