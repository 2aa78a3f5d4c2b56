/- Q0 · QM · QW -/
import Derived.Test.YtabocamjaecaaaaGreatDoorGA
import Derived.Test.YtabocamjaecaaaaGreatDoorRows
import Derived.WalkKit
import Derived.Deep.DeepHandedRow
import Derived.Deep.DeepWitnessRowRef
import Derived.Carry
import Derived.Lib.SmallJoins
import Derived.Deep.Strs
import Derived.Deep.Slices
import Derived.ChangeSlices
import Derived.OpenShut
import Derived.ProofKit
import Derived.Test.YtabocamjaecaaaaGreatDoorGX
/- The arguments of the laws as a row reads them: rules and alphabets. -/
namespace Go.Proofs.YtabocamjaecaaaaGreatDoor
open Go.ChangeShapes Go.WideShapes Go.ChangeAt Go.RowKit Go.Joins Go.Deep
set_option maxRecDepth 100000
section
variable {H : Type} {enc : TypeId × Value → H} {w : World}

theorem cell_lt' {p : Addr} {v : Value} (h : w.cell? p = some v) : p.block < w.heap.size := by
 unfold World.cell? at h
 split at h
 ·rename_i e; exact (Array.getElem?_eq_some_iff.1 e).1
 ·cases h
theorem add_plain' {a : Addr} (h : a.spot = none) (i : Nat) : a.add i = ⟨a.block, a.off + i, none⟩ := by
 unfold Addr.add
 split
 ·rename_i e; subst e; cases a; simp_all
 ·rfl
theorem row_of_cells {a : Addr} {xs : List Value} (h : ∀ i x, xs[i]? = some x → w.cell? (a.add i) = some x) : RowAt w w.heap.size (some a) xs := fun h0 => by
 have h1 := h 0 _ (List.getElem?_eq_getElem h0)
 have e0 : a.add 0 = a := rfl
 rw [e0] at h1
 have hs := World.cell?_spot h1
 refine ⟨a.block, a.off, by cases a; simp_all, cell_lt' h1, fun i x hx => ?_⟩
 rw [← add_plain' hs]
 exact h i x hx

theorem read_strs {n : Nat} {v : Value} {y : DataW H × List MemPlace} (h : DataW.trod enc Tryz.prog w 0 (fun _ => true) true n 25 [v] = some y) :
  ∃ (a : Option Addr) (c : Nat) (l : List ByteArray), v = .slice a l.length c ∧ l.length ≤ maxLen ∧ (∀ s ∈ l, s.size ≤ maxLen) ∧ RowAt w w.heap.size a (strs l) := by
 rcases open_strs Tryz.underlying25 Tryz.underlying9 (by kernel_rfl) h with ⟨hcs, _⟩ | ⟨a, len, cap, m, Sx, hcs, _, hl, hm, hmm, _, hx⟩
 ·exact ⟨none, 0, [], by simpa using hcs, by simp, by simp, fun h => by simp [strs] at h⟩
 ·have hmm' : m = cap := by simpa using hmm
  refine ⟨some a, cap, (List.range len).map Sx, by simpa using hcs, by simp; omega, ?_, row_of_cells fun i x hi => ?_⟩
  ·intro s hs
   obtain ⟨i, hi, rfl⟩ := List.mem_map.1 hs
   have := List.mem_range.1 hi
   exact (hx i (by omega)).2
  ·have hi' : i < len := by
    have := (List.getElem?_eq_some_iff.1 hi).1
    simpa [strs] using this
   rw [(hx i (by omega)).1]
   simpa [strs, hi'] using hi

theorem read_ints {n : Nat} {v : Value} {y : DataW H × List MemPlace} (h : DataW.trod enc Tryz.prog w 0 (fun _ => true) true n 26 [v] = some y) :
  ∃ (a : Option Addr) (c : Nat) (l : List Int), v = .slice a l.length c ∧ l.length ≤ maxLen ∧ RowAt w w.heap.size a (nums l) := by
 rcases open_ints Tryz.underlying26 Tryz.underlying3 (by kernel_rfl) h with ⟨hcs, _⟩ | ⟨a, len, cap, zs, hcs, _, hl, hm, hz, _, hx, _⟩
 ·exact ⟨none, 0, [], by simpa using hcs, by simp, fun h => by simp [nums] at h⟩
 ·have hz' : zs.length = cap := by simpa using hz
  have hle : (zs.take len).length = len := by rw [List.length_take]; omega
  refine ⟨some a, cap, zs.take len, by rw [hle]; simpa using hcs, by omega, row_of_cells fun i x hi => ?_⟩
  have hi' : i < len := by
   have := (List.getElem?_eq_some_iff.1 hi).1
   simp [nums] at this
   omega
  rw [hx i (by omega)]
  simp only [nums, List.getElem?_map, List.getElem?_take, if_pos hi'] at hi
  rw [List.getElem?_eq_getElem (by omega)] at hi
  rw [← hi, List.getD_eq_getElem?_getD, List.getElem?_eq_getElem (by omega)]
  rfl

theorem c9 : Tryz.prog.cellsOf 9 = 1 := by kernel_rfl
theorem c4 : Tryz.prog.cellsOf 4 = 1 := by kernel_rfl
theorem c44 : Tryz.prog.cellsOf 60 = 4 := by kernel_rfl

theorem read_rule {n : Nat} {cs : List Value} {y : DataW H × List MemPlace} (h : DataW.trod enc Tryz.prog w 0 (fun _ => true) true n 60 cs = some y) (hl : cs.length = 4) :
  ∃ r : Rul, cs = r.cells ∧ r.src.size ≤ maxLen ∧ r.dst.size ≤ maxLen ∧ r.nxt.size ≤ maxLen := by
 obtain ⟨x0, x1, x2, x3, m, _, _, t0, t1, t2, t3⟩ := trod_struct4 Tryz.underlying60 h
 match cs, hl with
 | [k0, k1, k2, k3], _ =>
  simp only [c9, c4, List.drop_zero, List.drop_succ_cons, List.take_succ_cons, List.take_zero] at t0 t1 t2 t3
  obtain ⟨s0, e0, _, z0⟩ := DataW.trod_string Tryz.underlying9 t0
  obtain ⟨s1, e1, _, z1⟩ := DataW.trod_string Tryz.underlying9 t1
  obtain ⟨s2, e2, _, z2⟩ := DataW.trod_string Tryz.underlying9 t2
  obtain ⟨b, e3, _⟩ := DataW.trod_bool Tryz.underlying4 t3
  simp only [List.cons.injEq, and_true] at e0 e1 e2 e3
  subst e0 e1 e2 e3
  exact ⟨⟨s0, s1, s2, b⟩, rfl, z0, z1, z2⟩

theorem read_rules {n : Nat} {v : Value} {y : DataW H × List MemPlace} (h : DataW.trod enc Tryz.prog w 0 (fun _ => true) true n 22 [v] = some y) :
  ∃ (a : Option Addr) (c : Nat) (l : List Rul), v = .slice a l.length c ∧ l.length ≤ maxLen ∧ (∀ r ∈ l, r.src.size ≤ maxLen ∧ r.dst.size ≤ maxLen ∧ r.nxt.size ≤ maxLen) ∧ RowsAt w w.heap.size 4 a (l.map Rul.cells) := by
 rcases open_slice Tryz.underlying22 h with ⟨hcs, _⟩ | ⟨a, len, cap, m, q, D, Pl, hcs, _, hl, hm, hmm, _, hx⟩
 ·exact ⟨none, 0, [], by simpa using hcs, by simp, by simp, fun h => by simp at h⟩
 ·have hmm' : m = cap := by simpa using hmm
  have each : ∀ i, ∃ r : Rul, i < len → (r.src.size ≤ maxLen ∧ r.dst.size ≤ maxLen ∧ r.nxt.size ≤ maxLen) ∧ ∀ j x, r.cells[j]? = some x → w.cell? ((a.add (i * 4)).add j) = some x := fun i => by
   by_cases hi : i < len
   ·obtain ⟨cs', h1, h2⟩ := hx i (by omega)
    rw [c44] at h1
    obtain ⟨_, h3, h4⟩ := World.cells?_some h1
    obtain ⟨r, rfl, z0, z1, z2⟩ := read_rule h2 h3
    refine ⟨r, fun _ => ⟨⟨z0, z1, z2⟩, fun j x hj => ?_⟩⟩
    rw [h4 j (by have := (List.getElem?_eq_some_iff.1 hj).1; omega)]
    exact hj
   ·exact ⟨⟨⟨#[]⟩, ⟨#[]⟩, ⟨#[]⟩, false⟩, fun h => absurd h hi⟩
  obtain ⟨R, hR⟩ := Classical.axiomOfChoice each
  refine ⟨some a, cap, (List.range len).map R, by simpa using hcs, by simp; omega, ?_, fun h0 => ?_⟩
  ·intro r hr
   obtain ⟨i, hi, rfl⟩ := List.mem_map.1 hr
   exact (hR i (List.mem_range.1 hi)).1
  ·have h0' : 0 < len := by simpa using h0
   have h1 := (hR 0 h0').2 0 _ rfl
   have e0 : (a.add (0 * 4)).add 0 = a := rfl
   rw [e0] at h1
   have hs := World.cell?_spot h1
   refine ⟨a.block, a.off, by cases a; simp_all, cell_lt' h1, fun i r hi j x hj => ?_⟩
   have hi' : i < len := by
    have := (List.getElem?_eq_some_iff.1 hi).1
    simpa using this
   have hr : r = (R i).cells := by simpa [hi'] using hi.symm
   subst hr
   have := (hR i hi').2 j x hj
   rw [add_plain' hs, add_plain' rfl] at this
   exact this

theorem read_Rules {b0 : Nat} {v : Value} {d : DataW H} {p : List MemPlace} (hv : Value.okWide Tryz.prog w .any b0 24 v) (h : DataW.Trod enc Tryz.prog w 0 (fun _ => true) true 24 v d p) :
  ∃ R : Ruls, RulsAt w w.heap.size v R := by
 obtain ⟨v0, v1, v2, y0, y1, y2, n, rfl, _, _, t0, t1, t2⟩ := open_agg3 Tryz.underlying24 (by kernel_rfl) (by kernel_rfl) hv h
 obtain ⟨s0, e0, _, z0⟩ := DataW.trod_string Tryz.underlying9 t0
 obtain ⟨s1, e1, _, z1⟩ := DataW.trod_string Tryz.underlying9 t1
 obtain ⟨a, c, l, rfl, z2, z3, hr⟩ := read_rules t2
 simp only [List.cons.injEq, and_true] at e0 e1
 subst e0 e1
 exact ⟨⟨s0, s1, l⟩, a, c, rfl, z0, z1, z2, z3, hr⟩

theorem read_Alph {b0 : Nat} {v : Value} {d : DataW H} {p : List MemPlace} (hv : Value.okWide Tryz.prog w .any b0 28 v) (h : DataW.Trod enc Tryz.prog w 0 (fun _ => true) true 28 v d p) :
  ∃ A : Alph, AlphAt w w.heap.size v A := by
 obtain ⟨v0, v1, v2, y0, y1, y2, n, rfl, _, _, t0, t1, t2⟩ := open_agg3 Tryz.underlying28 (by kernel_rfl) (by kernel_rfl) hv h
 obtain ⟨s0, e0, _, z0⟩ := DataW.trod_string Tryz.underlying9 t0
 obtain ⟨a, c, l, rfl, z1, z2, h1⟩ := read_strs t1
 obtain ⟨a', c', l', rfl, z3, h2⟩ := read_ints t2
 simp only [List.cons.injEq, and_true] at e0
 subst e0
 exact ⟨⟨s0, l, l'⟩, a, c, a', c', rfl, z0, z1, z3, z2, h1, h2⟩
end

theorem ownK : ownKnob Tryz.prog.godebug = none := by kernel_rfl
theorem laidOutP : laidOutB Tryz.prog = true := by kernel_rfl

end Go.Proofs.YtabocamjaecaaaaGreatDoor

/- The arguments of the laws as a row reads them: machines. -/
namespace Go.Proofs.YtabocamjaecaaaaGreatDoor
open Go.ChangeShapes Go.WideShapes Go.ChangeAt Go.RowKit Go.Joins Go.Deep
set_option maxRecDepth 100000
section
variable {H : Type} {enc : TypeId × Value → H} {w : World}

theorem c3 : Tryz.prog.cellsOf 3 = 1 := by kernel_rfl
end
end Go.Proofs.YtabocamjaecaaaaGreatDoor

/- A world for the witness of a row; the witness's arguments. -/
namespace Go.Proofs.YtabocamjaecaaaaGreatDoor
open Go.ChangeShapes Go.WideShapes Go.ChangeAt Go.RowKit Go.Joins Go.Deep
set_option maxRecDepth 100000

def litV : DataW Unit → Value
 | .lit (.int k n) => .int k n
 | _ => .bool false
def rowV : DataW Unit → Array Value
 | .agg l => (l.map litV).toArray
 | _ => #[]

/-- A world for the witness: the settled one with two blocks more, the five variables holding what their initialisers lay. -/
noncomputable def laidWorld (os : Os) : World :=
 let N := (World.settled Tryz.prog os).heap.size
 let w0 := World.holding Tryz.prog os ⟨#[.cells #[.string ⟨#[118, 97, 108, 117, 101, 32, 111, 117, 116, 32, 111, 102, 32, 114, 97, 110, 103, 101]⟩] 213, .cells #[.string ⟨#[105, 110, 118, 97, 108, 105, 100, 32, 115, 121, 110, 116, 97, 120]⟩] 213], #[], []⟩
 let put (h : Array Obj) (g : Nat) (cs : Array Value) : Array Obj := h.modify g fun
  | .cells _ t frozen => .cells cs t frozen
  | o => o
 let h1 := put w0.heap 1 #[.iface 211 (.pointer (some ⟨N + 1, 0, none⟩))]
 let h2 := put h1 2 #[.iface 211 (.pointer (some ⟨N, 0, none⟩))]
 let h3 := put h2 3 (rowV Rows.laid_internal_strconv_uint64pow10)
 let h4 := put h3 4 (rowV Rows.laid_math_bits_deBruijn32tab)
 let h5 := put h4 5 (rowV Rows.laid_math_bits_deBruijn64tab)
 { w0 with heap := h5 }

/-- The witness's arguments: no rules, an empty alphabet, no machine. -/
def noRules : Value := .agg #[.string ⟨#[]⟩, .string ⟨#[]⟩, .slice none 0 0]
def noAlph : Value := .agg #[.string ⟨#[]⟩, .slice none 0 0, .slice none 0 0]
end Go.Proofs.YtabocamjaecaaaaGreatDoor
