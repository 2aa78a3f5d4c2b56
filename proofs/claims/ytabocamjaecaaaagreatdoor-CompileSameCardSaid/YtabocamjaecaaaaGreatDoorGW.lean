/- W10b · W10c · W10d · W11 -/
import Derived.Test.YtabocamjaecaaaaGreatDoorGI
import Derived.Laws.StructEq
/- Walks of the reference's alphabets (gazetteerref10), second part: the letters of a text. -/
namespace Go.Proofs.YtabocamjaecaaaaGreatDoor
open Go.RowKit Classical

theorem info_int : (Tryz.prog.info? 3).map (fun i => (i.zero, i.size, i.bytes)) = some (some (.int .i64 0), 1, 8) := by kernel_rfl

theorem readGo_nil (L : List (List UInt8)) (f o : Nat) (acc : List Int) : readGo L f [] o acc = ⟨acc, 0, 0⟩ := by
 cases f <;> simp [readGo]
theorem readGo_none {L : List (List UInt8)} {t : List UInt8} (ht : t ≠ []) (h : atF L t = none) (f o : Nat) (acc : List Int) : readGo L f t o acc = ⟨[], 3, o⟩ := by
 cases f <;> simp [readGo, h, ht]
theorem readGo_full {L : List (List UInt8)} {t : List UInt8} {k : Nat} (ht : t ≠ []) (h : atF L t = some k) (o : Nat) (acc : List Int) : readGo L 0 t o acc = ⟨[], 2, o⟩ := by
 simp [readGo, h, ht]
theorem readGo_step {L : List (List UInt8)} {t l : List UInt8} {k : Nat} (ht : t ≠ []) (h : atF L t = some k) (hl : L[k]? = some l) (f o : Nat) (acc : List Int) :
  readGo L (f + 1) t o acc = readGo L f (t.drop l.length) (o + l.length) (acc ++ [(k : Int)]) := by
 simp [readGo, h, ht, hl]

end Go.Proofs.YtabocamjaecaaaaGreatDoor

/- Walk of the reference's 'formed' on alphabets (gazetteerref10). -/
namespace Go.Proofs.YtabocamjaecaaaaGreatDoor
open Go.RowKit Classical

def printC (c : UInt8) : Bool := decide (33 ≤ c.toNat) && decide (c.toNat ≤ 126) && (c.toNat != 34)
def printB (l : List UInt8) : Bool := l.all printC
theorem printC_yes {c : UInt8} (h1 : (33 : Int) ≤ (c.toNat : Int)) (h2 : (c.toNat : Int) ≤ 126) (h3 : ((c.toNat : Int) == 34) = false) : printC c = true := by
 simp at h3; simp [printC]; omega
theorem printC_no {c : UInt8} (h : (c.toNat : Int) < 33 ∨ (126 : Int) < (c.toNat : Int) ∨ ((c.toNat : Int) == 34) = true) : printC c = false := by
 simp at h; simp [printC]; omega

def Formed10 (A : Alph) : Prop :=
 nameB (bl A.name) = true ∧ 1 ≤ A.letters.length ∧ A.letters.length ≤ 64 ∧ A.small.length = A.letters.length ∧
 (∀ l ∈ A.letters, 1 ≤ l.size ∧ l.size ≤ 3 ∧ printB (bl l) = true) ∧ (∀ z ∈ A.small, 0 ≤ z ∧ z < A.letters.length) ∧ A.letters.Nodup ∧
 (∀ (i : Nat) z, A.small[i]? = some z → A.small[z.toNat]? = some z)

end Go.Proofs.YtabocamjaecaaaaGreatDoor

/- Walk of the reference's 'Valid' on alphabets (gazetteerref10), and what a valid alphabet gives. -/
namespace Go.Proofs.YtabocamjaecaaaaGreatDoor
open Go.RowKit Classical

def Valid10 (A : Alph) : Prop :=
 Formed10 A ∧ ∀ (i k : Nat) l m, i ≠ k → A.letters[i]? = some l → A.letters[k]? = some m → bl m <+: bl l → ¬ Follows A.bls ((bl l).drop m.size)

theorem Formed10.pos {A : Alph} (h : Formed10 A) : ∀ l ∈ A.letters, 1 ≤ l.size := fun l hl => (h.2.2.2.2.1 l hl).1
theorem Formed10.len {A : Alph} (h : Formed10 A) : ∀ l ∈ A.bls, 1 ≤ l.length ∧ l.length ≤ 3 := fun l hl => by
 obtain ⟨m, hm, rfl⟩ := List.mem_map.1 hl
 have := h.2.2.2.2.1 m hm
 rw [bl_length]; omega
theorem Formed10.nodup {A : Alph} (h : Formed10 A) : A.bls.Nodup :=
 List.pairwise_map.2 (h.2.2.2.2.2.2.1.imp fun hne e => hne (bl_inj e))

def ValidTo (A : Alph) (n : Nat) (k : Nat) : Prop :=
 (∀ (i k : Nat) l m, i < n → i ≠ k → A.letters[i]? = some l → A.letters[k]? = some m → bl m <+: bl l → ¬ Follows A.bls ((bl l).drop m.size)) ∧
 (∀ (j : Nat) l m, j < k → n ≠ j → A.letters[n]? = some l → A.letters[j]? = some m → bl m <+: bl l → ¬ Follows A.bls ((bl l).drop m.size))

theorem ValidTo.step {A : Alph} {n k : Nat} (h : ValidTo A n k) (hk : k < A.letters.length) (hn : n < A.letters.length) (hno : n ≠ k → bl A.letters[k] <+: bl A.letters[n] → ¬ Follows A.bls ((bl A.letters[n]).drop A.letters[k].size)) :
  ValidTo A n (k + 1) := by
 refine ⟨h.1, fun j l m hj hne hl hm hp => ?_⟩
 rcases Nat.lt_succ_iff_lt_or_eq.1 hj with hj | rfl
 ·exact h.2 j l m hj hne hl hm hp
 ·rw [List.getElem?_eq_getElem hk] at hm; obtain rfl := Option.some.inj hm
  rw [List.getElem?_eq_getElem hn] at hl; obtain rfl := Option.some.inj hl
  exact hno hne hp
theorem ValidTo.next {A : Alph} {n : Nat} (h : ValidTo A n A.letters.length) : ValidTo A (n + 1) 0 := by
 refine ⟨fun i k l m hi hne hl hm hp => ?_, fun j l m hj => by omega⟩
 rcases Nat.lt_succ_iff_lt_or_eq.1 hi with hi | rfl
 ·exact h.1 i k l m hi hne hl hm hp
 ·exact h.2 k l m (List.getElem?_eq_some_iff.1 hm).1 hne hl hm hp

end Go.Proofs.YtabocamjaecaaaaGreatDoor

/- Walks of the reference's rules (gazetteerref11). -/
namespace Go.Proofs.YtabocamjaecaaaaGreatDoor
open Go.RowKit Classical

theorem eql_rule (x y : Rul) (w : World) : (binOp .eql 60 (.agg #[.string x.src, .string x.dst, .string x.nxt, .bool x.fin]) (.agg #[.string y.src, .string y.dst, .string y.nxt, .bool y.fin])).run Tryz.prog w = .ok (.bool (decide (x = y))) w := by
 have hS : Tryz.prog.underlying 60 = some (.struct (Tryz.prog.fieldsOf 60)) := by kernel_rfl
 have hp : Tryz.prog.stoodInHeld 60 = false := by kernel_rfl
 rw [run_eql_struct, show (10000 : Nat) = 9999 + 1 from rfl, run_equalIn_agg w 9999 60 _ _ hS hp]
 simp only [Program.fieldsOf, Tryz.underlying60]
 go_simp
 have hb : ∀ a b : ByteArray, a.toList = b.toList ↔ a = b := fun a b => by
  rw [ByteArray.toList_eq, ByteArray.toList_eq]
  exact ⟨fun h => bl_inj h, fun h => by rw [h]⟩
 obtain ⟨a, b, c, d⟩ := x
 obtain ⟨a', b', c', d'⟩ := y
 simp only [Rul.mk.injEq]
 simp only [hb]
 by_cases h1 : a = a' <;> by_cases h2 : b = b' <;> by_cases h3 : c = c' <;> simp [h1, h2, h3]
 by_cases h4 : d = d' <;> simp [h4]
/-- 'plain': from a to b bytes, each printable. -/
def Plain11 (s : ByteArray) (a b : Nat) : Prop := printB (bl s) = true ∧ a ≤ s.size ∧ s.size ≤ b

end Go.Proofs.YtabocamjaecaaaaGreatDoor
