/- The row of CompileBack and its tied card. -/
import Derived.Test.YtielbaaaipkbdaaGreatDoorQ0
import Derived.Test.YtielbaaaipkbdaaGreatDoorCards
import Derived.Test.YtielbaaaipkbdaaGreatDoorTie
import Derived.Test.YtielbaaaipkbdaaGreatDoorN9
import Derived.ProofKit
import Derived.OpenShut
import Derived.ChangeMaps5
namespace Go.Proofs.YtielbaaaipkbdaaGreatDoor
open Go.ChangeShapes Go.WideShapes Go.ChangeAt Go.RowKit Go.Joins Go.Deep
open Go.ChangeMaps (open_string shut_string)
set_option maxRecDepth 100000

theorem wit4 (os : Os) {H : Type} (enc : TypeId × Value → H) :
    (OpenSpec.ofChange Rows.compileBackSpec).preRow enc Tryz.prog Tryz.f6 Rows.compileBackRow.domain false Rows.compileBackRow.laid ((laidWorld os).forCall (fun _ _ => 0) ⟨#[], #[noRules, noAlph, noAlph, .string ⟨#[]⟩, .int .u8 0], []⟩).memory #[noRules, noAlph, noAlph, .string ⟨#[]⟩, .int .u8 0] := by
  have hw : (DataW.whole enc Tryz.prog ((laidWorld os).forCall (fun _ _ => 0) ⟨#[], #[noRules, noAlph, noAlph, .string ⟨#[]⟩, .int .u8 0], []⟩).memory Tryz.f6.params.toList Rows.compileBackSpec.vars false #[noRules, noAlph, noAlph, .string ⟨#[]⟩, .int .u8 0].toList 8).map (fun x => (x.1, x.2.1)) =
      some ([.agg [.lit (.string []), .lit (.string []), .nil], .agg [.lit (.string []), .nil, .nil], .agg [.lit (.string []), .nil, .nil], .lit (.string []), .lit (.int .u8 0)], []) := by kernel_rfl
  obtain ⟨⟨x1, x2, x3⟩, hx, hx1⟩ := Option.map_eq_some_iff.1 hw
  simp only [Prod.mk.injEq] at hx1
  obtain ⟨rfl, rfl⟩ := hx1
  exact OpenSpec.preRow_of_cond 8 hx (by kernel_rfl) (fun k hk => by cases hk) (by kernel_rfl) (laid_met os _)

theorem trodAll_five' {H : Type} {enc : TypeId × Value → H} {P : Program} {w : World} {base : Nat} {spare : Nat → Bool} {held : Bool} {t0 t1 t2 t3 t4 : TypeId} {args : Array Value} {ds : List (DataW H)} {ps : List MemPlace} (h : DataW.TrodAll enc P w base spare held [t0, t1, t2, t3, t4] args.toList ds ps) :
    ∃ v0 v1 v2 v3 v4 d0 d1 d2 d3 d4 p0 p1 p2 p3 p4, args = #[v0, v1, v2, v3, v4] ∧ ds = [d0, d1, d2, d3, d4] ∧ ps = p0 ++ (p1 ++ (p2 ++ (p3 ++ (p4 ++ [])))) ∧ DataW.Trod enc P w base spare held t0 v0 d0 p0 ∧ DataW.Trod enc P w base spare held t1 v1 d1 p1 ∧ DataW.Trod enc P w base spare held t2 v2 d2 p2 ∧ DataW.Trod enc P w base spare held t3 v3 d3 p3 ∧
      DataW.Trod enc P w base spare held t4 v4 d4 p4 := by
  obtain ⟨v0, r0, d0, s0, p0, q0, hargs, rfl, rfl, hd0, h⟩ := trodAll_cons h
  obtain ⟨v1, r1, d1, s1, p1, q1, rfl, rfl, rfl, hd1, h⟩ := trodAll_cons h
  obtain ⟨v2, r2, d2, s2, p2, q2, rfl, rfl, rfl, hd2, h⟩ := trodAll_cons h
  obtain ⟨v3, r3, d3, s3, p3, q3, rfl, rfl, rfl, hd3, h⟩ := trodAll_cons h
  obtain ⟨v4, r4, d4, s4, p4, q4, rfl, rfl, rfl, hd4, h⟩ := trodAll_cons h
  obtain ⟨rfl, rfl, rfl⟩ := trodAll_nil h
  exact ⟨v0, v1, v2, v3, v4, d0, d1, d2, d3, d4, p0, p1, p2, p3, p4, by cases args; simp_all, rfl, rfl, hd0, hd1, hd2, hd3, hd4⟩

theorem contract4 (H : Type) (enc : TypeId × Value → H) (W : World) (base : Nat) (args : Array Value) (ds gs : List (DataW H)) (before : List MemPlace)
    (hval : ∀ (j : Nat) t v, Tryz.f6.params[j]? = some t → args[j]? = some v → Value.okWide Tryz.prog W .any base t v)
    (hW : DataW.Whole enc Tryz.prog Tryz.f6.params.toList Rows.compileBackSpec.vars false W args.toList ds gs before) :
    Calls Tryz.prog 6 args W fun e W' => ∃ v, e = .returned v ∧ Rows.compileBackSpec.post enc Tryz.prog Tryz.f6 false true false false W args v W' := by
  have hW' := hW
  obtain ⟨p, q, hA0, hV, rfl, _, _⟩ := hW
  have hA : DataW.TrodAll enc Tryz.prog W 0 (fun _ => true) true Tryz.f6.params.toList args.toList ds p := hA0
  rw [Tryz.params6] at hA hval
  obtain ⟨v0, v1, v2, v3, v4, d0, d1, d2, d3, d4, p0, p1, p2, p3, p4, rfl, rfl, rfl, h0, h1, h2, h3, h4⟩ := trodAll_five' hA
  obtain ⟨rfl, rfl⟩ := trodVars_none hV
  obtain ⟨R, hR⟩ := read_Rules (hval 0 24 v0 rfl rfl) h0
  obtain ⟨A, hAl⟩ := read_Alph (hval 1 28 v1 rfl rfl) h1
  obtain ⟨B, hB⟩ := read_Alph (hval 2 28 v2 rfl rfl) h2
  have h3' := h3
  have h4' := h4
  obtain ⟨s, rfl, _, _, hs⟩ := open_string Tryz.underlying9 (hval 3 9 v3 rfl rfl) h3
  obtain ⟨a, rfl, _, _, wa⟩ := open_int Tryz.underlying5 (hval 4 5 v4 rfl rfl) h4
  have wa' : 0 ≤ a ∧ a ≤ 255 := by simpa [Lit.wf, IntKind.min, IntKind.max, IntKind.signed, IntKind.bits] using wa
  refine (law4_any R A B s hs a wa' v0 v1 v2 W hR hAl hB).mono fun e W' ⟨he, hb⟩ => ?_
  subst he
  have lt : ∀ x ∈ p0 ++ (p1 ++ (p2 ++ (p3 ++ (p4 ++ [])))), x.block < W.heap.size := fun x hx => by
    have := hW'.lt x (by simpa using hx)
    simpa using this
  have k0 := Below.trod laidOutP (by kernel_rfl) (of_decide_eq_true (by kernel_rfl)) h0 hb (fun x hx => lt x (by simp [hx]))
  have k1 := Below.trod laidOutP (by kernel_rfl) (of_decide_eq_true (by kernel_rfl)) h1 hb (fun x hx => lt x (by simp [hx]))
  have k2 := Below.trod laidOutP (by kernel_rfl) (of_decide_eq_true (by kernel_rfl)) h2 hb (fun x hx => lt x (by simp [hx]))
  have k3 := Below.trod laidOutP (by kernel_rfl) (of_decide_eq_true (by kernel_rfl)) h3' hb (fun x hx => lt x (by simp [hx]))
  have k4 := Below.trod laidOutP (by kernel_rfl) (of_decide_eq_true (by kernel_rfl)) h4' hb (fun x hx => lt x (by simp [hx]))
  refine ⟨_, rfl, _, _, _, [], p0 ++ (p1 ++ (p2 ++ (p3 ++ (p4 ++ [])))), [], hW', ?_, ?_, ?_, hb.frame _, fun h => by cases h⟩
  · exact trodAll_cons_mk (shut_bool Tryz.underlying4 _) trodAll_mk0
  · rw [Tryz.params6]
    exact trodAll_cons_mk k0 (trodAll_cons_mk k1 (trodAll_cons_mk k2 (trodAll_cons_mk k3 (trodAll_cons_mk k4 trodAll_mk0))))
  · rfl

theorem lifted4 (os : Os) (started : os.Started) (H : Type) (enc : TypeId × Value → H) (F : Stop.Interp) :
    ReturnsInHanded {} Tryz.checked os 6 .any ((OpenSpec.ofChange Rows.compileBackSpec).preRow enc Tryz.prog Tryz.f6 Rows.compileBackRow.domain false Rows.compileBackRow.laid) (((OpenSpec.ofChange Rows.compileBackSpec).at F).post enc Tryz.prog Tryz.f6 false true false false) := by
  refine returnsInHanded_of_row (C := Tryz.checked) (s := OpenSpec.ofChange Rows.compileBackSpec) ownK started (by kernel_rfl) Tryz.func6
    (witness_row_atRef (enc := enc) (C := Tryz.checked) false (laidWorld os) #[noRules, noAlph, noAlph, .string ⟨#[]⟩, .int .u8 0] rfl (by kernel_rfl) (by kernel_rfl) (by kernel_rfl) (wit4 os enc)) ?_
  intro W base args ds gs before hval hW _ _ _ _ _ _
  exact contract4 H enc W base args ds gs before hval hW

theorem said4 : Rows.CompileBackSaid :=
  OpenClaim.holds_of_cond 6 Tryz.f6 rfl rfl rfl rfl rfl rfl rfl ⟨rfl, rfl, rfl, rfl, rfl⟩ rfl rfl rfl rfl rfl (by kernel_rfl) Tryz.func6 (by kernel_rfl)
    (of_decide_eq_true (by kernel_rfl)) (by unfold Func.isWrapper; first | (rw [if_pos (by decide +kernel)]; kernel_rfl) | (rw [if_neg (by decide +kernel)]; exact ⟨rfl, rfl⟩))
    (fun os started H enc _ F => by rw [OpenClaim.pre_eq_preRow]; exact lifted4 os started H enc F)

theorem plain4 (f : FuncId) (fn : Func) (hf : Tryz.pinned.checked.prog.funcNamed "gazetteer/gazetteerlaw13.CompileBack" = some f) (hfn : Tryz.pinned.checked.prog.funcs[f]? = some fn) :
    true = Tryz.pinned.checked.prog.looks [] ∧ ∀ (j : Nat) t, fn.params[j]? = some t → Tryz.pinned.checked.prog.wantsStandIn t = false := by
  obtain rfl : f = 6 := Option.some.inj ((show Tryz.prog.funcNamed "gazetteer/gazetteerlaw13.CompileBack" = some 6 by kernel_rfl).symm.trans hf) |>.symm
  obtain rfl : fn = Tryz.f6 := (Option.some.inj (Tryz.func6.symm.trans hfn)).symm
  refine ⟨by kernel_rfl, fun j t ht => ?_⟩
  rw [Tryz.params6] at ht
  have : t = 24 ∨ t = 28 ∨ t = 28 ∨ t = 9 ∨ t = 5 := by simpa using Array.mem_of_getElem? ht
  rcases this with rfl | rfl | rfl | rfl | rfl
  · exact (show Tryz.prog.wantsStandIn 24 = false by kernel_rfl)
  · exact (show Tryz.prog.wantsStandIn 28 = false by kernel_rfl)
  · exact (show Tryz.prog.wantsStandIn 28 = false by kernel_rfl)
  · exact (show Tryz.prog.wantsStandIn 9 = false by kernel_rfl)
  · exact (show Tryz.prog.wantsStandIn 5 = false by kernel_rfl)

/-- The card. -/
theorem compileBack_card : Rows.CompileBackCardSaid :=
  Claim7.holds_tied_plain_at .later [] _ _ _ _ said4 (fun _ h => by cases h) (by kernel_rfl) (fun _ h => by cases h) compileBack_row_tie rfl ⟨rfl, rfl⟩ (by kernel_rfl) rfl plain4 (by kernel_rfl)
#print axioms compileBack_card
end Go.Proofs.YtielbaaaipkbdaaGreatDoor
