/- W12 · W10 -/
import Derived.Test.YtabocamjaecaaaaGreatDoorGA
import Derived.Test.YtabocamjaecaaaaGreatDoorGS
import Derived.Laws.StructEq
import Derived.Deep.QuietTactic
import Derived.BigQuiet
import Derived.StillTailTactics
import Derived.Deep.RegionHeld3
import Derived.Deep.DeepFit
import Derived.Lib.Strings
/- Walks of the reference's machines (gazetteerref12): the order of arcs, sorting. -/
namespace Go.Proofs.YtabocamjaecaaaaGreatDoor
open Go.RowKit Classical

theorem eql_arc (x y : Arc) (w : World) : (binOp .eql 49 (.agg #[.int .i64 x.frm, .int .i64 x.inp, .int .i64 x.out, .int .i64 x.to]) (.agg #[.int .i64 y.frm, .int .i64 y.inp, .int .i64 y.out, .int .i64 y.to])).run Tryz.prog w = .ok (.bool (decide (x = y))) w := by
 have hS : Tryz.prog.underlying 49 = some (.struct (Tryz.prog.fieldsOf 49)) := by kernel_rfl
 have hp : Tryz.prog.stoodInHeld 49 = false := by kernel_rfl
 rw [run_eql_struct, show (10000 : Nat) = 9999 + 1 from rfl, run_equalIn_agg w 9999 49 _ _ hS hp]
 simp only [Program.fieldsOf, Tryz.underlying49]
 go_simp
 obtain ⟨a, b, c, d⟩ := x
 obtain ⟨a', b', c', d'⟩ := y
 simp only [Arc.mk.injEq]
 by_cases h1 : a = a' <;> by_cases h2 : b = b' <;> by_cases h3 : c = c' <;> by_cases h4 : d = d' <;> simp [h1, h2, h3, h4]
theorem neq_arc (x y : Arc) (w : World) : (binOp .neq 49 (.agg #[.int .i64 x.frm, .int .i64 x.inp, .int .i64 x.out, .int .i64 x.to]) (.agg #[.int .i64 y.frm, .int .i64 y.inp, .int .i64 y.out, .int .i64 y.to])).run Tryz.prog w = .ok (.bool (!decide (x = y))) w := by
 have hS : Tryz.prog.underlying 49 = some (.struct (Tryz.prog.fieldsOf 49)) := by kernel_rfl
 have hp : Tryz.prog.stoodInHeld 49 = false := by kernel_rfl
 rw [run_neq_struct, show (10000 : Nat) = 9999 + 1 from rfl, run_equalIn_agg w 9999 49 _ _ hS hp]
 simp only [Program.fieldsOf, Tryz.underlying49]
 go_simp
 obtain ⟨a, b, c, d⟩ := x
 obtain ⟨a', b', c', d'⟩ := y
 simp only [Arc.mk.injEq]
 by_cases h1 : a = a' <;> by_cases h2 : b = b' <;> by_cases h3 : c = c' <;> by_cases h4 : d = d' <;> simp [h1, h2, h3, h4]
theorem guard_arc (op : BinOp) (a b : Operand) (x y : Array Value) (w : World) : (eqGuard op 49 a b (.agg x) (.agg y)).run Tryz.prog w = .ok () w :=
 run_eqGuard_agg w op _ a b x y (by kernel_rfl)
theorem info_arc : (Tryz.prog.info? 49).map (fun i => (i.zero, i.size, i.bytes)) = some (some (.agg #[.int .i64 0, .int .i64 0, .int .i64 0, .int .i64 0]), 4, 32) := by kernel_rfl

theorem RowAt.arcs {w : World} {B : Nat} {a : Option Addr} {l : List Arc} (h : RowAt w B a (flat l)) (hn : 0 < l.length) :
  ∃ b off, a = some ⟨b, off, none⟩ ∧ b < B ∧ ∀ i (hi : i < l.length), w.cell? ⟨b, off + i * 4, none⟩ = some (.int .i64 l[i].frm) ∧ w.cell? ⟨b, off + i * 4 + 1, none⟩ = some (.int .i64 l[i].inp) ∧
   w.cell? ⟨b, off + i * 4 + 2, none⟩ = some (.int .i64 l[i].out) ∧ w.cell? ⟨b, off + i * 4 + 3, none⟩ = some (.int .i64 l[i].to) := by
 obtain ⟨b, off, e, hb, hc⟩ := h (by rw [flat_length]; omega)
 refine ⟨b, off, e, hb, fun i hi => ?_⟩
 obtain ⟨h0, h1, h2, h3⟩ := flat_get l i l[i] (List.getElem?_eq_getElem hi)
 exact ⟨hc _ _ h0, hc _ _ h1, hc _ _ h2, hc _ _ h3⟩

end Go.Proofs.YtabocamjaecaaaaGreatDoor

/- Walks of the reference's alphabets (gazetteerref10). -/
namespace Go.Proofs.YtabocamjaecaaaaGreatDoor
open Go.RowKit Classical

def Few10 (A : Alph) : Prop :=
 (∀ i l, i < 70 → A.letters[i]? = some l → l.size ≤ 20) ∧ A.letters.length ≤ 70 ∧ A.small.length ≤ 70 ∧ A.name.size ≤ 100

set_option maxHeartbeats 400000 in
theorem few10_any (v : Value) (A : Alph) (w : World) (h : AlphAt w w.heap.size v A) :
  Calls Tryz.prog 46 #[v] w fun e w' => e = .returned (.bool (decide (Few10 A))) ∧ Below w.heap.size w w' := by
 obtain ⟨la, lc, sa, sc, rfl, hn, hl1, hs1, hls, hl, hs⟩ := h
 unfold maxLen at hl1 hs1 hn
 go_enter Tryz.func46, Tryz.ntmps46
 go_wp2
 go_loop [3] (fun i => ∃ k : Nat, k ≤ A.letters.length ∧ k ≤ 70 ∧ i = .int .i64 k ∧ (∀ i l, i < k → A.letters[i]? = some l → l.size ≤ 20)) (fun i => A.letters.length - (intOf i).toNat)
 case atStart => exact ⟨0, Nat.zero_le _, by omega, rfl, by simp⟩
 case round =>
  obtain ⟨k, hk, hk7, rfl, hall⟩ := hrel
  have H := Lib.hid hall
  clear hall
  by_cases hlt : k < A.letters.length ∧ k < 70
  ·obtain ⟨hlt, h7⟩ := hlt
   obtain ⟨b, off, rfl, hb, hc⟩ := hl.strs (by omega)
   have hck := hc k hlt
   clear hc hl
   go_wp2
   ·have h1 : (20 : Int) < ↑A.letters[k].size := by assumption
    go_ret
    refine ⟨ret_no fun hf => ?_, (Below.refl _ _).alloc (Nat.le_refl _) _⟩
    have := hf.1 k _ h7 (List.getElem?_eq_getElem hlt)
    omega
   ·refine ⟨⟨k + 1, by omega, by omega, by go_num, fun i l hi hl => ?_⟩, by simp [intOf]; omega⟩
    rcases Nat.lt_succ_iff_lt_or_eq.1 hi with h | rfl
    ·exact H.out i l h hl
    ·rw [List.getElem?_eq_getElem hlt] at hl; obtain rfl := Option.some.inj hl; omega
  ·go_wp2
   ·have : (70 : Int) < A.letters.length := by assumption
    go_ret
    exact ⟨ret_no fun hf => by have := hf.2.1; omega, (Below.refl _ _).alloc (Nat.le_refl _) _⟩
   ·go_ret
    refine ⟨ret_dec ?_, (Below.refl _ _).alloc (Nat.le_refl _) _⟩
    rw [Few10, decide_eq_true_iff]
    exact ⟨fun h => ⟨fun i l hi hl => H.out i l (by have := (List.getElem?_eq_some_iff.1 hl).1; omega) hl, by omega, by omega, by omega⟩, fun h => by omega⟩
   ·go_ret
    exact ⟨ret_no fun hf => by have := hf.2.2.1; omega, (Below.refl _ _).alloc (Nat.le_refl _) _⟩

def Alph.bls (A : Alph) : List (List UInt8) := A.letters.map bl

theorem bl_extract_to (s : ByteArray) (k : Nat) : bl (s.extract k s.size) = (bl s).drop k := by
 unfold bl; rw [Lib.extract_data, List.take_of_length_le (by simp)]

def AtInv (L : List (List UInt8)) (t : List UInt8) (k : Nat) (out : Int) : Prop :=
 (out = -1 ∧ ∀ i l, i < k → L[i]? = some l → ¬ l <+: t) ∨
 (∃ j l, j < k ∧ out = (j : Int) ∧ L[j]? = some l ∧ l <+: t ∧ ∀ i m, i < k → L[i]? = some m → m <+: t → m.length ≤ l.length)

theorem AtInv.done {L : List (List UInt8)} {t : List UInt8} {out : Int} (hd : L.Nodup) (hl : ∀ l ∈ L, 1 ≤ l.length ∧ l.length ≤ 3) (h : AtInv L t L.length out) : out = atI L t := by
 unfold atI atF
 rcases h with ⟨rfl, h⟩ | ⟨j, l, _, rfl, hj, hp, hb⟩
 ·rw [atN_none]
  intro l hl' hp
  obtain ⟨i, hi, rfl⟩ := List.getElem_of_mem hl'
  exact h i _ hi (List.getElem?_eq_getElem hi) hp
 ·have hm := hl l (List.mem_of_getElem? hj)
  rw [atN_best L hd t j l hj hp (fun m hm' hp' => ?_) hm.1 3 hm.2]
  obtain ⟨i, hi, rfl⟩ := List.getElem_of_mem hm'
  exact hb i _ hi (List.getElem?_eq_getElem hi) hp'

theorem AtInv.skip {L : List (List UInt8)} {t : List UInt8} {k : Nat} {out : Int} {l : List UInt8} (h : AtInv L t k out) (hk : L[k]? = some l) (hp : ¬ l <+: t) : AtInv L t (k + 1) out := by
 rcases h with ⟨e, h⟩ | ⟨j, m, hj, e, hm, hp', hb⟩
 ·refine .inl ⟨e, fun i x hi hx => ?_⟩
  rcases Nat.lt_succ_iff_lt_or_eq.1 hi with hi | rfl
  ·exact h i x hi hx
  ·rw [hk] at hx; obtain rfl := Option.some.inj hx; exact hp
 ·refine .inr ⟨j, m, by omega, e, hm, hp', fun i x hi hx hpx => ?_⟩
  rcases Nat.lt_succ_iff_lt_or_eq.1 hi with hi | rfl
  ·exact hb i x hi hx hpx
  ·rw [hk] at hx; obtain rfl := Option.some.inj hx; exact absurd hpx hp
theorem AtInv.keep {L : List (List UInt8)} {t : List UInt8} {k j : Nat} {l m : List UInt8} (h : AtInv L t k (j : Int)) (hk : L[k]? = some l) (hj : L[j]? = some m) (hle : l.length ≤ m.length) : AtInv L t (k + 1) (j : Int) := by
 rcases h with ⟨e, h⟩ | ⟨j', m', hj', e, hm, hp', hb⟩
 ·omega
 ·obtain rfl : j = j' := by omega
  rw [hj] at hm; obtain rfl := Option.some.inj hm
  refine .inr ⟨j, m, by omega, rfl, hj, hp', fun i x hi hx hpx => ?_⟩
  rcases Nat.lt_succ_iff_lt_or_eq.1 hi with hi | rfl
  ·exact hb i x hi hx hpx
  ·rw [hk] at hx; obtain rfl := Option.some.inj hx; exact hle
theorem AtInv.take {L : List (List UInt8)} {t : List UInt8} {k : Nat} {out : Int} {l : List UInt8} (h : AtInv L t k out) (hk : L[k]? = some l) (hp : l <+: t) (hgt : ∀ (j : Nat) (m : List UInt8), out = (j : Int) → L[j]? = some m → m.length < l.length) :
  AtInv L t (k + 1) (k : Int) := by
 refine .inr ⟨k, l, by omega, rfl, hk, hp, fun i x hi hx hpx => ?_⟩
 rcases Nat.lt_succ_iff_lt_or_eq.1 hi with hi | rfl
 ·rcases h with ⟨e, h⟩ | ⟨j', m', hj', e, hm, hp', hb⟩
  ·exact absurd hpx (h i x hi hx)
  ·have h1 := hb i x hi hx hpx
   have h2 := hgt _ _ e hm
   omega
 ·rw [hk] at hx; obtain rfl := Option.some.inj hx; omega

end Go.Proofs.YtabocamjaecaaaaGreatDoor
