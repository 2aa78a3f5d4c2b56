/- Walks of the reference's machines (gazetteerref12): the order of arcs, sorting. -/
import Derived.Test.YtielbaaaipkbdaaGreatDoorGA
import Derived.Test.YtielbaaaipkbdaaGreatDoorGS
import Derived.Laws.StructEq
import Derived.Deep.QuietTactic
import Derived.BigQuiet
import Derived.StillTailTactics
import Derived.Deep.RegionHeld3
import Derived.Deep.DeepFit
namespace Go.Proofs.YtielbaaaipkbdaaGreatDoor
open Go.RowKit Classical

set_option maxRecDepth 100000 in
set_option maxHeartbeats 400000 in
theorem before12_any (a b : Arc) (w : World) :
    Calls Tryz.prog 66 #[.agg #[.int .i64 a.frm, .int .i64 a.inp, .int .i64 a.out, .int .i64 a.to], .agg #[.int .i64 b.frm, .int .i64 b.inp, .int .i64 b.out, .int .i64 b.to]] w
      fun e w' => e = .returned (.bool (decide (a.lt b))) ∧ Below w.heap.size w w' := by
  go_enter Tryz.func66, Tryz.ntmps66
  go_wp2
  all_goals
    go_ret
    refine ⟨ret_dec ?_, ((Below.refl _ _).alloc (Nat.le_refl _) _).alloc (by simp) _⟩
    simp only [bne_iff_ne, ne_eq, bne_eq_false_iff_eq] at *
    unfold Arc.lt
    simp
    omega
theorem before12_yes (a b : Arc) (h : a.lt b) (w : World) :
    Calls Tryz.prog 66 #[.agg #[.int .i64 a.frm, .int .i64 a.inp, .int .i64 a.out, .int .i64 a.to], .agg #[.int .i64 b.frm, .int .i64 b.inp, .int .i64 b.out, .int .i64 b.to]] w
      fun e w' => e = .returned (.bool true) ∧ Below w.heap.size w w' :=
  (before12_any a b w).mono fun _ _ hh => ⟨by rw [hh.1, decide_eq_true h], hh.2⟩
theorem before12_no (a b : Arc) (h : ¬ a.lt b) (w : World) :
    Calls Tryz.prog 66 #[.agg #[.int .i64 a.frm, .int .i64 a.inp, .int .i64 a.out, .int .i64 a.to], .agg #[.int .i64 b.frm, .int .i64 b.inp, .int .i64 b.out, .int .i64 b.to]] w
      fun e w' => e = .returned (.bool false) ∧ Below w.heap.size w w' :=
  (before12_any a b w).mono fun _ _ hh => ⟨by rw [hh.1, decide_eq_false h], hh.2⟩

theorem eql_arc (x y : Arc) (w : World) : (binOp .eql 58 (.agg #[.int .i64 x.frm, .int .i64 x.inp, .int .i64 x.out, .int .i64 x.to]) (.agg #[.int .i64 y.frm, .int .i64 y.inp, .int .i64 y.out, .int .i64 y.to])).run Tryz.prog w = .ok (.bool (decide (x = y))) w := by
  have hS : Tryz.prog.underlying 58 = some (.struct (Tryz.prog.fieldsOf 58)) := by kernel_rfl
  have hp : Tryz.prog.stoodInHeld 58 = false := by kernel_rfl
  rw [run_eql_struct, show (10000 : Nat) = 9999 + 1 from rfl, run_equalIn_agg w 9999 58 _ _ hS hp]
  simp only [Program.fieldsOf, Tryz.underlying58]
  go_simp
  obtain ⟨a, b, c, d⟩ := x
  obtain ⟨a', b', c', d'⟩ := y
  simp only [Arc.mk.injEq]
  by_cases h1 : a = a' <;> by_cases h2 : b = b' <;> by_cases h3 : c = c' <;> by_cases h4 : d = d' <;> simp [h1, h2, h3, h4]
theorem neq_arc (x y : Arc) (w : World) : (binOp .neq 58 (.agg #[.int .i64 x.frm, .int .i64 x.inp, .int .i64 x.out, .int .i64 x.to]) (.agg #[.int .i64 y.frm, .int .i64 y.inp, .int .i64 y.out, .int .i64 y.to])).run Tryz.prog w = .ok (.bool (!decide (x = y))) w := by
  have hS : Tryz.prog.underlying 58 = some (.struct (Tryz.prog.fieldsOf 58)) := by kernel_rfl
  have hp : Tryz.prog.stoodInHeld 58 = false := by kernel_rfl
  rw [run_neq_struct, show (10000 : Nat) = 9999 + 1 from rfl, run_equalIn_agg w 9999 58 _ _ hS hp]
  simp only [Program.fieldsOf, Tryz.underlying58]
  go_simp
  obtain ⟨a, b, c, d⟩ := x
  obtain ⟨a', b', c', d'⟩ := y
  simp only [Arc.mk.injEq]
  by_cases h1 : a = a' <;> by_cases h2 : b = b' <;> by_cases h3 : c = c' <;> by_cases h4 : d = d' <;> simp [h1, h2, h3, h4]
theorem guard_arc (op : BinOp) (a b : Operand) (x y : Array Value) (w : World) : (eqGuard op 58 a b (.agg x) (.agg y)).run Tryz.prog w = .ok () w :=
  run_eqGuard_agg w op _ a b x y (by kernel_rfl)
theorem info_arc : (Tryz.prog.info? 58).map (fun i => (i.zero, i.size, i.bytes)) = some (some (.agg #[.int .i64 0, .int .i64 0, .int .i64 0, .int .i64 0]), 4, 32) := by kernel_rfl

/-- What the cells of a row of arcs hold. -/
def ArcsAt (w : World) (B : Nat) (a : Option Addr) (l : List Arc) : Prop := RowAt w B a (flat l)
theorem RowAt.arcs {w : World} {B : Nat} {a : Option Addr} {l : List Arc} (h : RowAt w B a (flat l)) (hn : 0 < l.length) :
    ∃ b off, a = some ⟨b, off, none⟩ ∧ b < B ∧ ∀ i (hi : i < l.length), w.cell? ⟨b, off + i * 4, none⟩ = some (.int .i64 l[i].frm) ∧ w.cell? ⟨b, off + i * 4 + 1, none⟩ = some (.int .i64 l[i].inp) ∧
      w.cell? ⟨b, off + i * 4 + 2, none⟩ = some (.int .i64 l[i].out) ∧ w.cell? ⟨b, off + i * 4 + 3, none⟩ = some (.int .i64 l[i].to) := by
  obtain ⟨b, off, e, hb, hc⟩ := h (by rw [flat_length]; omega)
  refine ⟨b, off, e, hb, fun i hi => ?_⟩
  obtain ⟨h0, h1, h2, h3⟩ := flat_get l i l[i] (List.getElem?_eq_getElem hi)
  exact ⟨hc _ _ h0, hc _ _ h1, hc _ _ h2, hc _ _ h3⟩

end Go.Proofs.YtielbaaaipkbdaaGreatDoor
