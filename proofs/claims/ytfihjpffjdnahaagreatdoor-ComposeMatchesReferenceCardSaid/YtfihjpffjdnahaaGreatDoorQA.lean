/- Q0 · QM · QW -/
import Derived.Test.YtfihjpffjdnahaaGreatDoorGA
import Derived.Test.YtfihjpffjdnahaaGreatDoorRows
import Derived.WalkKit
import Derived.Deep.DeepHandedRow
import Derived.Deep.DeepWitnessRowRef
import Derived.Carry
import Derived.Lib.SmallJoins
import Derived.Deep.Strs
import Derived.Deep.Slices
import Derived.ChangeSlices
import Derived.OpenShut
import Derived.ProofKit
import Derived.Test.YtfihjpffjdnahaaGreatDoorGX
/- The arguments of the laws as a row reads them: rules and alphabets. -/
namespace Go.Proofs.YtfihjpffjdnahaaGreatDoor
open Go.ChangeShapes Go.WideShapes Go.ChangeAt Go.RowKit Go.Joins Go.Deep
set_option maxRecDepth 100000
section
variable {H : Type} {enc : TypeId × Value → H} {w : World}

theorem cell_lt' {p : Addr} {v : Value} (h : w.cell? p = some v) : p.block < w.heap.size := by
 unfold World.cell? at h
 split at h
 ·rename_i e; exact (Array.getElem?_eq_some_iff.1 e).1
 ·cases h
theorem add_plain' {a : Addr} (h : a.spot = none) (i : Nat) : a.add i = ⟨a.block, a.off + i, none⟩ := by
 unfold Addr.add
 split
 ·rename_i e; subst e; cases a; simp_all
 ·rfl
theorem row_of_cells {a : Addr} {xs : List Value} (h : ∀ i x, xs[i]? = some x → w.cell? (a.add i) = some x) : RowAt w w.heap.size (some a) xs := fun h0 => by
 have h1 := h 0 _ (List.getElem?_eq_getElem h0)
 have e0 : a.add 0 = a := rfl
 rw [e0] at h1
 have hs := World.cell?_spot h1
 refine ⟨a.block, a.off, by cases a; simp_all, cell_lt' h1, fun i x hx => ?_⟩
 rw [← add_plain' hs]
 exact h i x hx

theorem read_strs {n : Nat} {v : Value} {y : DataW H × List MemPlace} (h : DataW.trod enc Tryz.prog w 0 (fun _ => true) true n 26 [v] = some y) :
  ∃ (a : Option Addr) (c : Nat) (l : List ByteArray), v = .slice a l.length c ∧ l.length ≤ maxLen ∧ (∀ s ∈ l, s.size ≤ maxLen) ∧ RowAt w w.heap.size a (strs l) := by
 rcases open_strs Tryz.underlying26 Tryz.underlying9 (by kernel_rfl) h with ⟨hcs, _⟩ | ⟨a, len, cap, m, Sx, hcs, _, hl, hm, hmm, _, hx⟩
 ·exact ⟨none, 0, [], by simpa using hcs, by simp, by simp, fun h => by simp [strs] at h⟩
 ·have hmm' : m = cap := by simpa using hmm
  refine ⟨some a, cap, (List.range len).map Sx, by simpa using hcs, by simp; omega, ?_, row_of_cells fun i x hi => ?_⟩
  ·intro s hs
   obtain ⟨i, hi, rfl⟩ := List.mem_map.1 hs
   have := List.mem_range.1 hi
   exact (hx i (by omega)).2
  ·have hi' : i < len := by
    have := (List.getElem?_eq_some_iff.1 hi).1
    simpa [strs] using this
   rw [(hx i (by omega)).1]
   simpa [strs, hi'] using hi

theorem read_ints {n : Nat} {v : Value} {y : DataW H × List MemPlace} (h : DataW.trod enc Tryz.prog w 0 (fun _ => true) true n 22 [v] = some y) :
  ∃ (a : Option Addr) (c : Nat) (l : List Int), v = .slice a l.length c ∧ l.length ≤ maxLen ∧ RowAt w w.heap.size a (nums l) := by
 rcases open_ints Tryz.underlying22 Tryz.underlying3 (by kernel_rfl) h with ⟨hcs, _⟩ | ⟨a, len, cap, zs, hcs, _, hl, hm, hz, _, hx, _⟩
 ·exact ⟨none, 0, [], by simpa using hcs, by simp, fun h => by simp [nums] at h⟩
 ·have hz' : zs.length = cap := by simpa using hz
  have hle : (zs.take len).length = len := by rw [List.length_take]; omega
  refine ⟨some a, cap, zs.take len, by rw [hle]; simpa using hcs, by omega, row_of_cells fun i x hi => ?_⟩
  have hi' : i < len := by
   have := (List.getElem?_eq_some_iff.1 hi).1
   simp [nums] at this
   omega
  rw [hx i (by omega)]
  simp only [nums, List.getElem?_map, List.getElem?_take, if_pos hi'] at hi
  rw [List.getElem?_eq_getElem (by omega)] at hi
  rw [← hi, List.getD_eq_getElem?_getD, List.getElem?_eq_getElem (by omega)]
  rfl

theorem c9 : Tryz.prog.cellsOf 9 = 1 := by kernel_rfl
theorem c4 : Tryz.prog.cellsOf 4 = 1 := by kernel_rfl
theorem read_Alph {b0 : Nat} {v : Value} {d : DataW H} {p : List MemPlace} (hv : Value.okWide Tryz.prog w .any b0 28 v) (h : DataW.Trod enc Tryz.prog w 0 (fun _ => true) true 28 v d p) :
  ∃ A : Alph, AlphAt w w.heap.size v A := by
 obtain ⟨v0, v1, v2, y0, y1, y2, n, rfl, _, _, t0, t1, t2⟩ := open_agg3 Tryz.underlying28 (by kernel_rfl) (by kernel_rfl) hv h
 obtain ⟨s0, e0, _, z0⟩ := DataW.trod_string Tryz.underlying9 t0
 obtain ⟨a, c, l, rfl, z1, z2, h1⟩ := read_strs t1
 obtain ⟨a', c', l', rfl, z3, h2⟩ := read_ints t2
 simp only [List.cons.injEq, and_true] at e0
 subst e0
 exact ⟨⟨s0, l, l'⟩, a, c, a', c', rfl, z0, z1, z3, z2, h1, h2⟩
end

theorem ownK : ownKnob Tryz.prog.godebug = none := by kernel_rfl
theorem laidOutP : laidOutB Tryz.prog = true := by kernel_rfl

end Go.Proofs.YtfihjpffjdnahaaGreatDoor

/- The arguments of the laws as a row reads them: machines. -/
namespace Go.Proofs.YtfihjpffjdnahaaGreatDoor
open Go.ChangeShapes Go.WideShapes Go.ChangeAt Go.RowKit Go.Joins Go.Deep
set_option maxRecDepth 100000
section
variable {H : Type} {enc : TypeId × Value → H} {w : World}

theorem c3 : Tryz.prog.cellsOf 3 = 1 := by kernel_rfl
theorem c58 : Tryz.prog.cellsOf 40 = 4 := by kernel_rfl
theorem read_arc {n : Nat} {cs : List Value} {y : DataW H × List MemPlace} (h : DataW.trod enc Tryz.prog w 0 (fun _ => true) true n 40 cs = some y) (hl : cs.length = 4) : ∃ a : Arc, cs = a.cells := by
 obtain ⟨x0, x1, x2, x3, m, _, _, t0, t1, t2, t3⟩ := trod_struct4 Tryz.underlying40 h
 match cs, hl with
 | [k0, k1, k2, k3], _ =>
  simp only [c3, List.drop_zero, List.drop_succ_cons, List.take_succ_cons, List.take_zero] at t0 t1 t2 t3
  obtain ⟨n0, e0, _⟩ := DataW.trod_int Tryz.underlying3 t0
  obtain ⟨n1, e1, _⟩ := DataW.trod_int Tryz.underlying3 t1
  obtain ⟨n2, e2, _⟩ := DataW.trod_int Tryz.underlying3 t2
  obtain ⟨n3, e3, _⟩ := DataW.trod_int Tryz.underlying3 t3
  simp only [List.cons.injEq, and_true] at e0 e1 e2 e3
  subst e0 e1 e2 e3
  exact ⟨⟨n0, n1, n2, n3⟩, rfl⟩
theorem flat_split : ∀ (l : List Arc) (t : Nat) (x : Value), (flat l)[t]? = some x → ∃ (i : Nat) (a : Arc) (j : Nat), l[i]? = some a ∧ a.cells[j]? = some x ∧ t = i * 4 + j
 | [], t, x, h => by simp [flat] at h
 | a :: l, t, x, h => by
  rw [flat_cons] at h
  by_cases ht : t < 4
  ·refine ⟨0, a, t, rfl, ?_, by omega⟩
   rw [← h]
   match t, ht with
   | 0, _ => rfl
   | 1, _ => rfl
   | 2, _ => rfl
   | 3, _ => rfl
  ·obtain ⟨u, rfl⟩ : ∃ u, t = u + 4 := ⟨t - 4, by omega⟩
   obtain ⟨i, b, j, h1, h2, h3⟩ := flat_split l u x (by rw [← h]; rfl)
   exact ⟨i + 1, b, j, by simpa using h1, h2, by omega⟩
theorem read_arcs {n : Nat} {v : Value} {y : DataW H × List MemPlace} (h : DataW.trod enc Tryz.prog w 0 (fun _ => true) true n 23 [v] = some y) :
  ∃ (a : Option Addr) (c : Nat) (l : List Arc), v = .slice a l.length c ∧ l.length ≤ maxLen ∧ RowAt w w.heap.size a (flat l) := by
 rcases open_slice Tryz.underlying23 h with ⟨hcs, _⟩ | ⟨a, len, cap, m, q, D, Pl, hcs, _, hl, hm, hmm, _, hx⟩
 ·exact ⟨none, 0, [], by simpa using hcs, by simp, fun h => by simp [flat] at h⟩
 ·have hmm' : m = cap := by simpa using hmm
  have each : ∀ i, ∃ r : Arc, i < len → ∀ j x, r.cells[j]? = some x → w.cell? ((a.add (i * 4)).add j) = some x := fun i => by
   by_cases hi : i < len
   ·obtain ⟨cs', h1, h2⟩ := hx i (by omega)
    rw [c58] at h1
    obtain ⟨_, h3, h4⟩ := World.cells?_some h1
    obtain ⟨r, rfl⟩ := read_arc h2 h3
    refine ⟨r, fun _ j x hj => ?_⟩
    rw [h4 j (by have := (List.getElem?_eq_some_iff.1 hj).1; omega)]
    exact hj
   ·exact ⟨⟨0, 0, 0, 0⟩, fun h => absurd h hi⟩
  obtain ⟨R, hR⟩ := Classical.axiomOfChoice each
  refine ⟨some a, cap, (List.range len).map R, by simpa using hcs, by simp; omega, fun h0 => ?_⟩
  have h0' : 0 < len := by rw [flat_length] at h0; simp at h0; omega
  have h1 := hR 0 h0' 0 _ rfl
  have e0 : (a.add (0 * 4)).add 0 = a := rfl
  rw [e0] at h1
  have hs := World.cell?_spot h1
  refine ⟨a.block, a.off, by cases a; simp_all, cell_lt' h1, fun t x ht => ?_⟩
  obtain ⟨i, b, j, q1, q2, rfl⟩ := flat_split _ t x ht
  have hi' : i < len := by
   have := (List.getElem?_eq_some_iff.1 q1).1
   simpa using this
  have hr : b = R i := by simpa [hi'] using q1.symm
  subst hr
  have := hR i hi' j x q2
  rw [add_plain' hs, add_plain' rfl] at this
  rw [← Nat.add_assoc]
  exact this
theorem read_Mach {b0 : Nat} {v : Value} {d : DataW H} {p : List MemPlace} (hv : Value.okWide Tryz.prog w .any b0 25 v) (h : DataW.Trod enc Tryz.prog w 0 (fun _ => true) true 25 v d p) :
  ∃ M : Mach, MachAt w w.heap.size v M := by
 obtain ⟨v0, v1, v2, v3, y0, y1, y2, y3, n, rfl, _, _, t0, t1, t2, t3⟩ := open_agg4 Tryz.underlying25 (by kernel_rfl) (by kernel_rfl) hv h
 obtain ⟨n0, e0, _⟩ := DataW.trod_int Tryz.underlying3 t0
 obtain ⟨n1, e1, _⟩ := DataW.trod_int Tryz.underlying3 t1
 obtain ⟨a, c, l, rfl, z2, hr⟩ := read_ints t2
 obtain ⟨a', c', l', rfl, z3, hr'⟩ := read_arcs t3
 simp only [List.cons.injEq, and_true] at e0 e1
 subst e0 e1
 exact ⟨⟨n0, n1, l, l'⟩, a, c, a', c', rfl, z2, z3, hr, hr'⟩
end
end Go.Proofs.YtfihjpffjdnahaaGreatDoor

/- A world for the witness of a row; the witness's arguments. -/
namespace Go.Proofs.YtfihjpffjdnahaaGreatDoor
open Go.ChangeShapes Go.WideShapes Go.ChangeAt Go.RowKit Go.Joins Go.Deep
set_option maxRecDepth 100000

def litV : DataW Unit → Value
 | .lit (.int k n) => .int k n
 | _ => .bool false
def rowV : DataW Unit → Array Value
 | .agg l => (l.map litV).toArray
 | _ => #[]

/-- A world for the witness: the settled one with two blocks more, the five variables holding what their initialisers lay. -/
noncomputable def laidWorld (os : Os) : World :=
 let N := (World.settled Tryz.prog os).heap.size
 let w0 := World.holding Tryz.prog os ⟨#[.cells #[.string ⟨#[118, 97, 108, 117, 101, 32, 111, 117, 116, 32, 111, 102, 32, 114, 97, 110, 103, 101]⟩] 191, .cells #[.string ⟨#[105, 110, 118, 97, 108, 105, 100, 32, 115, 121, 110, 116, 97, 120]⟩] 191], #[], []⟩
 let put (h : Array Obj) (g : Nat) (cs : Array Value) : Array Obj := h.modify g fun
  | .cells _ t frozen => .cells cs t frozen
  | o => o
 let h1 := put w0.heap 1 #[.iface 189 (.pointer (some ⟨N + 1, 0, none⟩))]
 let h2 := put h1 2 #[.iface 189 (.pointer (some ⟨N, 0, none⟩))]
 let h3 := put h2 3 (rowV Rows.laid_internal_strconv_uint64pow10)
 let h4 := put h3 4 (rowV Rows.laid_math_bits_deBruijn32tab)
 let h5 := put h4 5 (rowV Rows.laid_math_bits_deBruijn64tab)
 { w0 with heap := h5 }

def noAlph : Value := .agg #[.string ⟨#[]⟩, .slice none 0 0, .slice none 0 0]
def noMach : Value := .agg #[.int .i64 0, .int .i64 0, .slice none 0 0, .slice none 0 0]
end Go.Proofs.YtfihjpffjdnahaaGreatDoor
