/- SW · BA · BB · QB · BC · BO · GO -/
import Derived.Test.YthachfkcgdfdfaaGreatDoorP20
import Derived.ChangeKeysEq
import Derived.Deep.CutBlock
import Derived.Deep.RegionHeld3
import Derived.BigQuiet
import Derived.Deep.QuietTactic
import Derived.Laws.Concat
/- Plain words: what rules write for a word, and that a compiled machine's results are just this. No program in sight. -/
namespace Go.Proofs.YthachfkcgdfdfaaGreatDoor
open Go Classical

def rdL (L : List (List UInt8)) (t : List UInt8) : List Int := (readL L t).letters
/-- The letters' numbers. -/
def ids (L : List (List UInt8)) (ls : List (List UInt8)) : List Int := ls.map (fun l => ((L.idxOf l : Nat) : Int))
def txt (L : List (List UInt8)) (i : Int) : List UInt8 := L[i.toNat]?.getD []
section
variable {L : List (List UInt8)}
theorem readGo_ids (hT : Told L) : ∀ (ls : List (List UInt8)) (f o : Nat) (acc : List Int), (∀ m ∈ ls, m ∈ L) → ls.length ≤ f → (readGo L f ls.flatten o acc).letters = acc ++ ids L ls
 | [], f, o, acc, _, _ => by cases f <;> simp [readGo, ids]
 | l :: ls, f, o, acc, ha, hf => by
  have hl := ha l (List.mem_cons_self ..)
  have ha' : ∀ m ∈ ls, m ∈ L := fun m hm => ha m (List.mem_cons_of_mem _ hm)
  obtain ⟨k, hk1, hk2⟩ := at_cat hT hl ha'
  have hne : ¬ (l ++ ls.flatten = []) := fun e => by
   have := (hT.len l hl).1
   rw [(List.append_eq_nil_iff.1 e).1] at this
   simp at this
  rw [List.length_cons] at hf
  obtain ⟨f', rfl⟩ : ∃ f', f = f' + 1 := ⟨f - 1, by omega⟩
  have e : readGo L (f' + 1) (l ++ ls.flatten) o acc = readGo L f' ls.flatten (o + l.length) (acc ++ [(k : Int)]) := by
   conv => lhs; unfold readGo
   rw [if_neg hne, hk1]
   simp only [hk2, Option.getD_some, List.drop_left]
  rw [List.flatten_cons, e, readGo_ids hT ls f' _ _ ha' (by omega), List.append_assoc]
  unfold ids
  rw [List.map_cons, idxOf_getElem hT.nodup hk2]
  rfl
theorem read_inv (hT : Told L) {t : List UInt8} (h : (readL L t).err = 0) : ∃ ls : List (List UInt8), ls ≠ [] ∧ (∀ m ∈ ls, m ∈ L) ∧ t = ls.flatten ∧ rdL L t = ids L ls := by
 obtain ⟨ls, h1, h2, rfl⟩ := cat_iff.1 (cat_of_read h)
 have hl := flatten_len (fun l hl => (hT.len l hl).1) ls h2
 have hp := List.length_pos_iff.2 h1
 have hne : ¬ ls.flatten = [] := fun e => by rw [e, List.length_nil] at hl; omega
 refine ⟨ls, h1, h2, rfl, ?_⟩
 unfold rdL
 unfold readL at h ⊢
 rw [if_neg hne] at h ⊢
 have h24 : ls.length ≤ 24 := by
  rcases Nat.lt_or_ge 24 ls.length with h3 | h3
  ·rw [(readGo_cat hT ls 24 0 [] h2).2 h3] at h
   simp at h
  ·exact h3
 rw [readGo_ids hT ls 24 0 [] h2 h24, List.nil_append]
variable {all : List RulL}
end
end Go.Proofs.YthachfkcgdfdfaaGreatDoor
/- Plain words: bridges: when one is valid; a word folded; which text is the only one that passes. No program in sight. -/
namespace Go.Proofs.YthachfkcgdfdfaaGreatDoor
open Go Classical

/-- A bridge: its scripts and rules. -/
structure Brid where
 scripts : List Alph
 rules : List Ruls
def Brid.names (b : Brid) : List ByteArray := b.scripts.map Alph.name
/-- A script's number by its name. -/
def Brid.no (b : Brid) (s : ByteArray) (i : Nat) (A : Alph) : Prop := b.scripts[i]? = some A ∧ A.name = s

structure ScrOk (b : Brid) : Prop where
 one : 1 ≤ b.scripts.length
 most : b.scripts.length ≤ 8
 alph : ∀ A ∈ b.scripts, Valid10 A
 names : b.names.Nodup
structure RlsOk (b : Brid) (l : List Ruls) : Prop where
 rules : ∀ r ∈ l, ∃ i j A B, b.no r.src i A ∧ b.no r.dst j B ∧ i ≠ j ∧ Valid11 r A B
 twice : (l.map (fun r => (r.src, r.dst))).Nodup
structure ValidB (b : Brid) : Prop where
 scr : ScrOk b
 rls : RlsOk b b.rules
 base : ∀ i A B, 1 ≤ i → b.scripts[i]? = some A → b.scripts[0]? = some B → ∃ r ∈ b.rules, r.src = A.name ∧ r.dst = B.name

theorem Brid.no_names {b : Brid} {s : ByteArray} {i : Nat} {A : Alph} (h : b.no s i A) : b.names[i]? = some s := by
 unfold Brid.names
 rw [List.getElem?_map, h.1, Option.map_some, h.2]
theorem Brid.no_uniq {b : Brid} (hs : b.names.Nodup) {s : ByteArray} {i j : Nat} {A B : Alph} (h : b.no s i A) (k : b.no s j B) : i = j ∧ A = B := by
 have h1 := Brid.no_names h
 have k1 := Brid.no_names k
 obtain ⟨hi, e1⟩ := List.getElem?_eq_some_iff.1 h1
 obtain ⟨hj, e2⟩ := List.getElem?_eq_some_iff.1 k1
 have : i = j := (List.getElem_inj hs).1 (e1.trans e2.symm)
 subst this
 exact ⟨rfl, Option.some.inj (h.1.symm.trans k.1)⟩
theorem Brid.no_of {b : Brid} {s : ByteArray} (h : s ∈ b.names) : ∃ i A, b.no s i A := by
 obtain ⟨A, hA, e⟩ := List.mem_map.1 h
 obtain ⟨i, hi⟩ := List.getElem?_of_mem hA
 exact ⟨i, A, hi, e⟩
theorem Brid.no_mem {b : Brid} {s : ByteArray} {i : Nat} {A : Alph} (h : b.no s i A) : s ∈ b.names := List.mem_map.2 ⟨A, List.mem_of_getElem? h.1, h.2⟩

/-- A word with small letters. -/
noncomputable def foldL (A : Alph) (t : List UInt8) : List UInt8 := (rdL A.bls t).flatMap (fun k => txt A.bls (A.small[k.toNat]?.getD 0))
/-- What Fold answers. -/
noncomputable def FoldOf (A : Alph) (t : ByteArray) (s : ByteArray) (err : Int) : Prop :=
 (Valid10 A ∧ (readL A.bls (bl t)).err = 0 ∧ bl s = foldL A (bl t) ∧ err = 0) ∨ (¬ (Valid10 A ∧ (readL A.bls (bl t)).err = 0) ∧ bl s = [] ∧ err = 1)
/-- The only text that passes, or an error. -/
noncomputable def OnlyOf (p : ByteArray → Prop) (ts : List ByteArray) (s : ByteArray) (err : Int) : Prop :=
 (ts.filter (fun t => decide (p t)) = [] ∧ bl s = [] ∧ err = 10) ∨ (ts.filter (fun t => decide (p t)) = [s] ∧ err = 0) ∨ (2 ≤ (ts.filter (fun t => decide (p t))).length ∧ bl s = [] ∧ err = 8)
/-- Reading what letters are, one after the other. -/
theorem read_of_cat {L : List (List UInt8)} (hT : Told L) {ls : List (List UInt8)} (h1 : ls ≠ []) (h2 : ∀ m ∈ ls, m ∈ L) (h3 : ls.length ≤ 24) : (readL L ls.flatten).err = 0 ∧ rdL L ls.flatten = ids L ls := by
 have hl := flatten_len (fun l hl => (hT.len l hl).1) ls h2
 have hp := List.length_pos_iff.2 h1
 have hne : ¬ ls.flatten = [] := fun e => by rw [e, List.length_nil] at hl; omega
 unfold rdL readL
 rw [if_neg hne, readGo_ids hT ls 24 0 [] h2 h3, List.nil_append]
 exact ⟨(readGo_cat hT ls 24 0 [] h2).1 h3, rfl⟩
/-- What is read: at most 24 letters. -/
theorem read_parts {L : List (List UInt8)} (hT : Told L) {t : List UInt8} (h : (readL L t).err = 0) : ∃ ls : List (List UInt8), ls ≠ [] ∧ (∀ m ∈ ls, m ∈ L) ∧ t = ls.flatten ∧ rdL L t = ids L ls ∧ ls.length ≤ 24 := by
 obtain ⟨ls, h1, h2, rfl, h4⟩ := read_inv hT h
 refine ⟨ls, h1, h2, rfl, h4, ?_⟩
 rcases Nat.lt_or_ge 24 ls.length with h3 | h3
 ·have hl := flatten_len (fun l hl => (hT.len l hl).1) ls h2
  have hp := List.length_pos_iff.2 h1
  have hne : ¬ ls.flatten = [] := fun e => by rw [e, List.length_nil] at hl; omega
  unfold readL at h
  rw [if_neg hne, (readGo_cat hT ls 24 0 [] h2).2 h3] at h
  simp at h
 ·exact h3
/-- The small letter of a letter. -/
noncomputable def smallOf (A : Alph) (l : List UInt8) : List UInt8 := txt A.bls (A.small[A.bls.idxOf l]?.getD 0)
theorem small_mem {A : Alph} (h : Valid10 A) {l : List UInt8} (hl : l ∈ A.bls) : smallOf A l ∈ A.bls ∧ smallOf A (smallOf A l) = smallOf A l := by
 have hT := told_of h
 have hlt := List.idxOf_lt_length_of_mem hl
 have hbl : A.bls.length = A.letters.length := by unfold Alph.bls; rw [List.length_map]
 obtain ⟨f1, f2, f3, f4, f5, f6, f7, f8⟩ := h.1
 have hz : A.bls.idxOf l < A.small.length := by omega
 have e1 : A.small[A.bls.idxOf l]? = some A.small[A.bls.idxOf l] := List.getElem?_eq_getElem hz
 have e2 := f6 _ (List.getElem_mem hz)
 have e3 := f8 _ _ e1
 have hk : (A.small[A.bls.idxOf l]).toNat < A.bls.length := by omega
 have e4 : smallOf A l = A.bls[(A.small[A.bls.idxOf l]).toNat] := by
  unfold smallOf txt
  rw [e1, Option.getD_some, List.getElem?_eq_getElem hk, Option.getD_some]
 have hm : smallOf A l ∈ A.bls := by rw [e4]; exact List.getElem_mem hk
 refine ⟨hm, ?_⟩
 have e5 : A.bls.idxOf (smallOf A l) = (A.small[A.bls.idxOf l]).toNat := by
  refine idxOf_getElem hT.nodup ?_
  rw [e4, List.getElem?_eq_getElem hk]
 have hd : ∀ m, smallOf A m = txt A.bls (A.small[A.bls.idxOf m]?.getD 0) := fun _ => rfl
 rw [hd (smallOf A l), e5, e3, Option.getD_some, hd l, e1, Option.getD_some]
theorem fold_cat {A : Alph} {ls : List (List UInt8)} {t : List UInt8} (h : rdL A.bls t = ids A.bls ls) : foldL A t = (ls.map (smallOf A)).flatten := by
 unfold foldL
 rw [h]
 unfold ids
 rw [List.flatMap_map, List.flatMap_def]
 refine congrArg List.flatten (List.map_congr_left (fun l _ => ?_))
 rw [Int.toNat_natCast]
 rfl
/-- A folded word is a word, and its own folded word. -/
theorem fold_word {A : Alph} (h : Valid10 A) {t : List UInt8} (ht : (readL A.bls t).err = 0) : (readL A.bls (foldL A t)).err = 0 ∧ foldL A (foldL A t) = foldL A t ∧ Cat A.bls (foldL A t) ∧ (foldL A t).length ≤ 72 := by
 have hT := told_of h
 obtain ⟨ls, h1, h2, h3, h4, h5⟩ := read_parts hT ht
 have e := fold_cat h4
 have hm : ∀ m ∈ ls.map (smallOf A), m ∈ A.bls := fun m hm => by
  obtain ⟨l, hl, rfl⟩ := List.mem_map.1 hm
  exact (small_mem h (h2 l hl)).1
 obtain ⟨q1, q2⟩ := read_of_cat hT (ls := ls.map (smallOf A)) (by simpa using h1) hm (by simpa using h5)
 have hlen : ∀ (ms : List (List UInt8)), (∀ m ∈ ms, m ∈ A.bls) → ms.flatten.length ≤ 3 * ms.length := fun ms => by
  induction ms with
  | nil => intro _; simp
  | cons m ms ih =>
   intro q
   have i1 := ih (fun y hy => q y (List.mem_cons_of_mem _ hy))
   have i2 := (hT.len m (q m (List.mem_cons_self ..))).2
   rw [List.flatten_cons, List.length_append, List.length_cons]
   omega
 rw [← e] at q1 q2
 refine ⟨q1, ?_, ?_, ?_⟩
 ·rw [fold_cat q2, e, List.map_map]
  congr 1
  refine List.map_congr_left (fun l hl => ?_)
  exact (small_mem h (h2 l hl)).2
 ·exact cat_of_read q1
 ·rw [e]
  have := hlen _ hm
  rw [List.length_map] at this
  omega
/-- A word has no blank. -/
theorem word_no_blank {A : Alph} (h : Valid10 A) {t : List UInt8} (ht : (readL A.bls t).err = 0) : 32 ∉ t ∧ t ≠ [] := by
 obtain ⟨ls, h1, h2, h3, _⟩ := read_parts (told_of h) ht
 constructor
 ·intro hm
  rw [h3] at hm
  obtain ⟨l, hl, hc⟩ := List.mem_flatten.1 hm
  have := letters_print h l (h2 l hl) 32 hc
  simp at this
 ·intro e
  rw [e] at ht
  simp [readL] at ht
end Go.Proofs.YthachfkcgdfdfaaGreatDoor
/- How bridges lie in memory; keys of two numbers (arrays). -/
namespace Go.Proofs.YthachfkcgdfdfaaGreatDoor
open Go.RowKit Classical

/-- A slice of alphabets, of rules. -/
def AlphsAt (w : World) (B : Nat) (a : Option Addr) (L : List Alph) : Prop :=
 ∃ rows : List (List Value), rows.length = L.length ∧ RowsAt w B 3 a rows ∧ ∀ (i : Nat) (r : List Value) (A : Alph), rows[i]? = some r → L[i]? = some A → AlphAt w B (.agg r.toArray) A
def RulssAt (w : World) (B : Nat) (a : Option Addr) (L : List Ruls) : Prop :=
 ∃ rows : List (List Value), rows.length = L.length ∧ RowsAt w B 3 a rows ∧ ∀ (i : Nat) (r : List Value) (R : Ruls), rows[i]? = some r → L[i]? = some R → RulsAt w B (.agg r.toArray) R
def BridAt (w : World) (B : Nat) (v : Value) (b : Brid) : Prop :=
 ∃ a c a' c', v = .agg #[.slice a b.scripts.length c, .slice a' b.rules.length c'] ∧ b.scripts.length ≤ maxLen ∧ b.rules.length ≤ maxLen ∧ AlphsAt w B a b.scripts ∧ RulssAt w B a' b.rules
section
variable {w w' : World} {B B' : Nat} {a : Option Addr} {v : Value} {b : Brid}
theorem AlphsAt.below {L : List Alph} (h : AlphsAt w B a L) (hb : Below B' w w') (hB : B ≤ B') : AlphsAt w' B a L := by
 obtain ⟨rows, h1, h2, h3⟩ := h
 exact ⟨rows, h1, h2.below hb hB, fun i r A hr hA => (h3 i r A hr hA).below hb hB⟩
theorem AlphsAt.more {L : List Alph} (h : AlphsAt w B a L) (hB : B ≤ B') : AlphsAt w B' a L := by
 obtain ⟨rows, h1, h2, h3⟩ := h
 exact ⟨rows, h1, h2.more hB, fun i r A hr hA => (h3 i r A hr hA).more hB⟩
theorem RulssAt.below {L : List Ruls} (h : RulssAt w B a L) (hb : Below B' w w') (hB : B ≤ B') : RulssAt w' B a L := by
 obtain ⟨rows, h1, h2, h3⟩ := h
 exact ⟨rows, h1, h2.below hb hB, fun i r A hr hA => (h3 i r A hr hA).below hb hB⟩
theorem RulssAt.more {L : List Ruls} (h : RulssAt w B a L) (hB : B ≤ B') : RulssAt w B' a L := by
 obtain ⟨rows, h1, h2, h3⟩ := h
 exact ⟨rows, h1, h2.more hB, fun i r A hr hA => (h3 i r A hr hA).more hB⟩
theorem BridAt.below (h : BridAt w B v b) (hb : Below B' w w') (hB : B ≤ B') : BridAt w' B v b := by
 obtain ⟨a, c, a', c', e, h1, h2, h3, h4⟩ := h
 exact ⟨a, c, a', c', e, h1, h2, h3.below hb hB, h4.below hb hB⟩
theorem BridAt.more (h : BridAt w B v b) (hB : B ≤ B') : BridAt w B' v b := by
 obtain ⟨a, c, a', c', e, h1, h2, h3, h4⟩ := h
 exact ⟨a, c, a', c', e, h1, h2, h3.more hB, h4.more hB⟩
/-- The cells of the k-th alphabet. -/
theorem AlphsAt.get {L : List Alph} (h : AlphsAt w B a L) {k : Nat} {A : Alph} (hk : L[k]? = some A) : ∃ g o la lc sa sc, a = some ⟨g, o, none⟩ ∧ g < B ∧
  w.cell? ⟨g, o + k * 3, none⟩ = some (.string A.name) ∧ w.cell? ⟨g, o + k * 3 + 1, none⟩ = some (.slice la A.letters.length lc) ∧ w.cell? ⟨g, o + k * 3 + 2, none⟩ = some (.slice sa A.small.length sc) ∧
  AlphAt w B (.agg #[.string A.name, .slice la A.letters.length lc, .slice sa A.small.length sc]) A := by
 obtain ⟨rows, h1, h2, h3⟩ := h
 obtain ⟨hkl, _⟩ := List.getElem?_eq_some_iff.1 hk
 have hr : rows[k]? = some rows[k] := List.getElem?_eq_getElem (by omega)
 have hA := h3 k _ A hr hk
 obtain ⟨g, o, e, hg, hc⟩ := h2 (by omega)
 have hA' := hA
 obtain ⟨la, lc, sa, sc, e2, _⟩ := hA
 have e3 : rows[k] = [.string A.name, .slice la A.letters.length lc, .slice sa A.small.length sc] := by
  have := Value.agg.inj e2
  simpa using congrArg Array.toList this
 have hc' := hc k _ hr
 rw [e3] at hc' hA'
 exact ⟨g, o, la, lc, sa, sc, e, hg, hc' 0 _ rfl, hc' 1 _ rfl, hc' 2 _ rfl, hA'⟩
theorem RulssAt.get {L : List Ruls} (h : RulssAt w B a L) {k : Nat} {R : Ruls} (hk : L[k]? = some R) : ∃ g o la lc, a = some ⟨g, o, none⟩ ∧ g < B ∧
  w.cell? ⟨g, o + k * 3, none⟩ = some (.string R.src) ∧ w.cell? ⟨g, o + k * 3 + 1, none⟩ = some (.string R.dst) ∧ w.cell? ⟨g, o + k * 3 + 2, none⟩ = some (.slice la R.list.length lc) ∧
  RulsAt w B (.agg #[.string R.src, .string R.dst, .slice la R.list.length lc]) R := by
 obtain ⟨rows, h1, h2, h3⟩ := h
 obtain ⟨hkl, _⟩ := List.getElem?_eq_some_iff.1 hk
 have hr : rows[k]? = some rows[k] := List.getElem?_eq_getElem (by omega)
 have hA := h3 k _ R hr hk
 obtain ⟨g, o, e, hg, hc⟩ := h2 (by omega)
 have hA' := hA
 obtain ⟨la, lc, e2, _⟩ := hA
 have e3 : rows[k] = [.string R.src, .string R.dst, .slice la R.list.length lc] := by
  have := Value.agg.inj e2
  simpa using congrArg Array.toList this
 have hc' := hc k _ hr
 rw [e3] at hc' hA'
 exact ⟨g, o, la, lc, e, hg, hc' 0 _ rfl, hc' 1 _ rfl, hc' 2 _ rfl, hA'⟩
end
end Go.Proofs.YthachfkcgdfdfaaGreatDoor
/- The arguments of the laws of layers 16 and 17 as a row reads them: bridges, names, abbreviations. -/
namespace Go.Proofs.YthachfkcgdfdfaaGreatDoor
open Go.ChangeShapes Go.WideShapes Go.ChangeAt Go.RowKit Go.Joins Go.Deep
set_option maxRecDepth 100000
theorem byte_in {r : Int} (h : (Lit.int .u8 r).wf = true) : 0 ≤ r ∧ r < 256 := by
 have h1 : (decide ((IntKind.u8).min ≤ r) && decide (r ≤ (IntKind.u8).max)) = true := h
 rw [Bool.and_eq_true, decide_eq_true_iff, decide_eq_true_iff] at h1
 have e1 : (IntKind.u8).min = 0 := by decide
 have e2 : (IntKind.u8).max = 255 := by decide
 omega
section
variable {H : Type} {enc : TypeId × Value → H} {w : World}

instance : Inhabited Sht := ⟨⟨⟨#[]⟩, ⟨#[]⟩, ⟨#[]⟩, 0⟩⟩
end
end Go.Proofs.YthachfkcgdfdfaaGreatDoor
/- Plain words: the machines of a bridge, what a word is written as, and the key of a name. No program in sight. -/
namespace Go.Proofs.YthachfkcgdfdfaaGreatDoor
open Go Classical

/-- There are rules from script i to script j. -/
def RuleIn (b : Brid) (i j : Nat) (r : Ruls) : Prop := r ∈ b.rules ∧ ∃ A B, b.no r.src i A ∧ b.no r.dst j B
/-- The machine of one step: a copy, or that of rules. -/
def MadeOf (b : Brid) (i j : Nat) (M : Mach) : Prop := ∃ A, b.scripts[i]? = some A ∧ ((i = j ∧ CopyM A.bls M) ∨ (i ≠ j ∧ ∃ r, RuleIn b i j r ∧ CompileOf r A M))
/-- The machine from script i to script j. -/
def MachOf (b : Brid) (i j : Nat) (M : Mach) (err : Int) : Prop :=
 ((i = j ∨ ∃ r, RuleIn b i j r) ∧ MadeOf b i j M ∧ err = 0) ∨ (¬ (i = j ∨ ∃ r, RuleIn b i j r) ∧ ∃ X Y Z, MadeOf b i 0 X ∧ MadeOf b j 0 Y ∧ InvOf Y Z ∧ CompOut X Z M err)
def MachineOut (b : Brid) (x y : Int) (M : Mach) (err : Int) : Prop :=
 (¬ (ValidB b ∧ 0 ≤ x ∧ x < b.scripts.length ∧ 0 ≤ y ∧ y < b.scripts.length) ∧ err = 1 ∧ M = zeroM) ∨
 (ValidB b ∧ ∃ i j : Nat, x = i ∧ y = j ∧ i < b.scripts.length ∧ j < b.scripts.length ∧ MachOf b i j M err)
section
variable {b : Brid} {i j : Nat} {M N : Mach}
theorem ValidB.rule_valid (hv : ValidB b) {r : Ruls} {A B : Alph} (h : RuleIn b i j r) (hA : b.scripts[i]? = some A) (hB : b.scripts[j]? = some B) : i ≠ j ∧ Valid11 r A B := by
 obtain ⟨h1, A', B', kA, kB⟩ := h
 obtain ⟨i', j', X, Y, hX, hY, hne, hval⟩ := hv.rls.rules r h1
 obtain ⟨e1, e2⟩ := Brid.no_uniq hv.scr.names hX kA
 obtain ⟨e3, e4⟩ := Brid.no_uniq hv.scr.names hY kB
 subst e1 e2 e3 e4
 have eA : A = X := Option.some.inj (hA.symm.trans hX.1)
 have eB : B = Y := Option.some.inj (hB.symm.trans hY.1)
 subst eA eB
 exact ⟨hne, hval⟩
/-- What Write answers. -/
def WordOf (B : Alph) (t : ByteArray) : Prop := (readL B.bls (bl t)).err = 0
def WriteOut (b : Brid) (x y : Int) (word s : ByteArray) (err : Int) : Prop :=
 ∃ M e1, MachineOut b x y M e1 ∧ ((e1 ≠ 0 ∧ bl s = [] ∧ err = e1) ∨ (e1 = 0 ∧ ∃ A B, b.scripts[x.toNat]? = some A ∧ b.scripts[y.toNat]? = some B ∧ ∃ f e2, FoldOf A word f e2 ∧
  ((e2 ≠ 0 ∧ bl s = [] ∧ err = 1) ∨ (e2 = 0 ∧ ∃ ts e3, RunsOf M (bl f) ts e3 ∧ ((e3 ≠ 0 ∧ bl s = [] ∧ err = e3) ∨ (e3 = 0 ∧ OnlyOf (WordOf B) ts s err))))))
end
end Go.Proofs.YthachfkcgdfdfaaGreatDoor
/- Walk: bridge.open: the transliterations of a bridge, by the numbers of their scripts. -/
namespace Go.Proofs.YthachfkcgdfdfaaGreatDoor
open Go.RowKit Classical

theorem info_int16 : (Tryz.prog.info? 3).isSome = true := by kernel_rfl
theorem eql_tt (x y : Int × Int) (w : World) : (Op.equal 155 (.agg #[.int .i64 x.1, .int .i64 x.2]) (.agg #[.int .i64 y.1, .int .i64 y.2])).run Tryz.prog w = .ok (decide (x = y)) w := by
 obtain ⟨i0, hi⟩ := Option.isSome_iff_exists.1 info_int16
 unfold Op.equal Op.maxDepth
 rw [show (10000 : Nat) = 9999 + 1 from rfl, run_equalIn_array w 9999 _ _ Tryz.underlying155 hi]
 have hc : Tryz.prog.cellsOf 3 = 1 := by kernel_rfl
 rw [hc, show List.range 2 = [0, 1] from rfl]
 unfold Op.eqItems Op.eqItems Op.eqItems
 go_simp
 obtain ⟨a, b⟩ := x
 obtain ⟨a', b'⟩ := y
 simp only [Prod.mk.injEq]
 by_cases h1 : a = a' <;> by_cases h2 : b = b' <;> simp [h1, h2]
def ttV (x : Int × Int) : Value := .agg #[.int .i64 x.1, .int .i64 x.2]
def OkTT (v : Value) : Prop := ∃ x, v = ttV x
theorem ttV_inj {x y : Int × Int} (h : ttV x = ttV y) : x = y := by
 cases x; cases y; simpa [ttV] using h
theorem ttV_eq {x y : Int × Int} : ttV x = ttV y ↔ x = y := ⟨ttV_inj, fun h => by rw [h]⟩
set_option maxRecDepth 100000 in
theorem keyTT : KeyT Tryz.prog 155 OkTT := by
 refine keyT_struct Tryz.underlying155 ?_ ?_ ?_ ?_
 ·rintro _ _ ⟨x, rfl⟩ ⟨y, rfl⟩; rfl
 ·rintro em w _ ⟨x, rfl⟩
  unfold ttV
  rw [show (10000 : Nat) = 9998 + 1 + 1 from rfl, Instr.checkKey]
  simp only [Sem.run_bind, run_underlying Tryz.underlying155, Result.andThen_ok]
  simp only [Std.Legacy.Range.forIn_eq_forIn_range', Std.Legacy.Range.size, Nat.sub_zero, Nat.add_one_sub_one, Nat.div_one]
  rw [show List.range' 0 2 1 = [0, 1] from rfl]
  go_simp
  simp only [check_int, Result.andThen_ok]
 ·rintro _ ⟨x, rfl⟩
  simp [ttV, Instr.sameBits]
 ·rintro w _ _ ⟨x, rfl⟩ ⟨y, rfl⟩
  rw [show (Op.equal 155 (ttV x) (ttV y)).run Tryz.prog w = .ok (decide (x = y)) w from eql_tt x y w]
  congr 1
  rw [decide_eq_decide, ttV_eq]

/-- The entries of the map: rule by rule. -/
def WaysAt (w : World) (B : Nat) (b : Brid) (l : List Ruls) (es : List (Value × Value)) : Prop :=
 es.length = l.length ∧ ∀ (m : Nat) (r : Ruls) (p : Value × Value), l[m]? = some r → es[m]? = some p → ∃ (i j : Nat) (A A' : Alph), b.no r.src i A ∧ b.no r.dst j A' ∧ p.1 = ttV ((i : Int), (j : Int)) ∧ RulsAt w B p.2 r
theorem WaysAt.below {w w' : World} {B B' : Nat} {b : Brid} {l : List Ruls} {es : List (Value × Value)} (h : WaysAt w B b l es) (hb : Below B' w w') (hB : B ≤ B') : WaysAt w' B b l es :=
 ⟨h.1, fun m r p hr hp => by
  obtain ⟨i, j, A, A', h1, h2, h3, h4⟩ := h.2 m r p hr hp
  exact ⟨i, j, A, A', h1, h2, h3, h4.below hb hB⟩⟩
def OpenBPost (b : Brid) (w : World) (e : Ending) (w' : World) : Prop :=
 ((¬ ValidB b ∧ e = .returned (.tuple #[.map none, .bool false])) ∨ (ValidB b ∧ ∃ mb es, e = .returned (.tuple #[.map (some mb), .bool true]) ∧ w.heap.size ≤ mb ∧ MapIs w' mb OkTT es ∧ WaysAt w' w.heap.size b b.rules es)) ∧ Below w.heap.size w w'
theorem openB_no {b : Brid} {w w' : World} (h : ¬ ValidB b) (hb : Below w.heap.size w w') : OpenBPost b w (.returned (.tuple #[.map none, .bool false])) w' := ⟨.inl ⟨h, rfl⟩, hb⟩
theorem openB_yes {b : Brid} {w w' : World} {mb : Nat} {es : List (Value × Value)} (h : ValidB b) (h1 : w.heap.size ≤ mb) (h2 : MapIs w' mb OkTT es) (h3 : WaysAt w' w.heap.size b b.rules es) (hb : Below w.heap.size w w') : OpenBPost b w (.returned (.tuple #[.map (some mb), .bool true])) w' :=
 ⟨.inr ⟨h, mb, es, rfl, h1, h2, h3⟩, hb⟩
theorem look_names {b : Brid} (s : ByteArray) : ∃ (v : Int) (t : Bool), (∀ (w : World) (nb : Nat), MapIs w nb OkStr (pairs b.names) → (Instr.lookup 141 (.map (some nb)) (.string s) true).run Tryz.prog w = .ok (.tuple #[.int .i64 v, .bool t]) w) ∧
  ((t = true ∧ ∃ (i : Nat) (A : Alph), b.no s i A ∧ v = (i : Int)) ∨ (t = false ∧ s ∉ b.names ∧ v = 0)) := by
 by_cases h : s ∈ b.names
 ·obtain ⟨i, A, hi⟩ := Brid.no_of h
  exact ⟨i, true, fun w nb hM => look_pair_some hM (Brid.no_names hi), .inl ⟨rfl, i, A, hi, rfl⟩⟩
 ·exact ⟨0, false, fun w nb hM => look_pair_none hM h, .inr ⟨rfl, h, rfl⟩⟩
theorem zero_ruls (w : World) : (zeroValue 106).run Tryz.prog w = .ok (.agg #[.string ByteArray.empty, .string ByteArray.empty, .slice none 0 0]) w := by kernel_rfl
theorem look_ways (es : List (Value × Value)) (x : Int × Int) (hes : ∀ p ∈ es, ∃ s0 s1 ra rn rc, p.2 = Value.agg #[.string s0, .string s1, .slice ra rn rc]) : ∃ (s0 s1 : ByteArray) (ra : Option Addr) (rn rc : Nat) (t : Bool), (∀ (w : World) (wb : Nat), MapIs w wb OkTT es → (Instr.lookup 137 (.map (some wb)) (.agg #[.int .i64 x.1, .int .i64 x.2]) true).run Tryz.prog w = .ok (.tuple #[.agg #[.string s0, .string s1, .slice ra rn rc], .bool t]) w) ∧
  ((t = true ∧ (ttV x, Value.agg #[.string s0, .string s1, .slice ra rn rc]) ∈ es) ∨ (t = false ∧ ∀ p ∈ es, p.1 ≠ ttV x)) := by
 by_cases h : ∃ p ∈ es, p.1 = ttV x
 ·obtain ⟨⟨k, v⟩, hp, e⟩ := h
  simp only at e
  subst e
  obtain ⟨s0, s1, ra, rn, rc, rfl⟩ := hes _ hp
  refine ⟨s0, s1, ra, rn, rc, true, fun w wb hM => ?_, .inl ⟨rfl, hp⟩⟩
  have := hM.look_some keyTT Tryz.underlying137 hp true
  rwa [if_pos rfl] at this
 ·have hno : ∀ p ∈ es, p.1 ≠ ttV x := fun p hp e => h ⟨p, hp, e⟩
  refine ⟨ByteArray.empty, ByteArray.empty, none, 0, 0, false, fun w wb hM => ?_, .inr ⟨rfl, hno⟩⟩
  have := hM.look_none keyTT Tryz.underlying137 (zero_ruls w) (key := ttV x) ⟨x, rfl⟩ hno true
  rwa [if_pos rfl] at this
theorem WaysAt.aggs {w : World} {B : Nat} {b : Brid} {l : List Ruls} {es : List (Value × Value)} (h : WaysAt w B b l es) : ∀ p ∈ es, ∃ s0 s1 ra rn rc, p.2 = Value.agg #[.string s0, .string s1, .slice ra rn rc] := fun p hp => by
 obtain ⟨m, hm⟩ := List.getElem?_of_mem hp
 obtain ⟨hml, _⟩ := List.getElem?_eq_some_iff.1 hm
 obtain ⟨i, j, A, A', _, _, _, a, c, e, _⟩ := h.2 m _ p (List.getElem?_eq_getElem (by have := h.1; omega)) hm
 exact ⟨_, _, _, _, _, e⟩
theorem WaysAt.snoc {w : World} {B : Nat} {b : Brid} {l : List Ruls} {es : List (Value × Value)} (h : WaysAt w B b l es) {r : Ruls} {i j : Nat} {A A' : Alph} (h1 : b.no r.src i A) (h2 : b.no r.dst j A') {v : Value} (hv : RulsAt w B v r) : WaysAt w B b (l ++ [r]) (es ++ [(ttV ((i : Int), (j : Int)), v)]) := by
 refine ⟨by simp [h.1], fun m r' p hr hp => ?_⟩
 rcases Nat.lt_or_ge m l.length with hm | hm
 ·rw [List.getElem?_append_left hm] at hr
  rw [List.getElem?_append_left (by rw [h.1]; exact hm)] at hp
  exact h.2 m r' p hr hp
 ·rw [List.getElem?_append_right hm] at hr
  rw [List.getElem?_append_right (by rw [h.1]; exact hm), h.1] at hp
  have h0 : m - l.length = 0 := by have := (List.getElem?_eq_some_iff.1 hr).1; simp at this; omega
  rw [h0] at hr hp
  simp at hr hp
  subst hr hp
  exact ⟨i, j, A, A', h1, h2, rfl, hv⟩
/-- A pair of numbers that is in the map: rules with these names stand there. -/
theorem WaysAt.has {w : World} {B : Nat} {b : Brid} {l : List Ruls} {es : List (Value × Value)} (h : WaysAt w B b l es) {i j : Nat} {v : Value} (hm : (ttV ((i : Int), (j : Int)), v) ∈ es) : ∃ r ∈ l, ∃ A A', b.no r.src i A ∧ b.no r.dst j A' ∧ RulsAt w B v r := by
 obtain ⟨m, hm⟩ := List.getElem?_of_mem hm
 obtain ⟨hml, _⟩ := List.getElem?_eq_some_iff.1 hm
 have hml' : m < l.length := by have := h.1; omega
 have hl : l[m]? = some l[m] := List.getElem?_eq_getElem hml'
 obtain ⟨i', j', A, A', h1, h2, h3, h4⟩ := h.2 m _ _ hl hm
 have e := ttV_inj h3
 simp only [Prod.mk.injEq] at e
 obtain rfl : i = i' := by omega
 obtain rfl : j = j' := by omega
 exact ⟨_, List.mem_of_getElem? hl, A, A', h1, h2, h4⟩
/-- One that is not: no rules have these names. -/
theorem WaysAt.hasnt {w : World} {B : Nat} {b : Brid} {l : List Ruls} {es : List (Value × Value)} (hs : b.names.Nodup) (h : WaysAt w B b l es) {i j : Nat} (hm : ∀ p ∈ es, p.1 ≠ ttV ((i : Int), (j : Int))) {r : Ruls} (hr : r ∈ l) {A A' : Alph} (h1 : b.no r.src i A) (h2 : b.no r.dst j A') : False := by
 obtain ⟨m, hm'⟩ := List.getElem?_of_mem hr
 obtain ⟨hml, _⟩ := List.getElem?_eq_some_iff.1 hm'
 have hml' : m < es.length := by have := h.1; omega
 have he : es[m]? = some es[m] := List.getElem?_eq_getElem hml'
 obtain ⟨i', j', B1, B2, k1, k2, k3, _⟩ := h.2 m r _ hm' he
 obtain ⟨rfl, _⟩ := Brid.no_uniq hs h1 k1
 obtain ⟨rfl, _⟩ := Brid.no_uniq hs h2 k2
 exact hm _ (List.mem_of_getElem? he) k3
theorem RlsOk.snoc {b : Brid} (hs : b.names.Nodup) {w : World} {B : Nat} {l : List Ruls} {es : List (Value × Value)} (h : RlsOk b l) (hw : WaysAt w B b l es) {r : Ruls} {i j : Nat} {A A' : Alph} (h1 : b.no r.src i A) (h2 : b.no r.dst j A') (hne : i ≠ j) (hv : Valid11 r A A') (hm : ∀ p ∈ es, p.1 ≠ ttV ((i : Int), (j : Int))) : RlsOk b (l ++ [r]) := by
 refine ⟨fun s hs' => ?_, ?_⟩
 ·rcases List.mem_append.1 hs' with hs' | hs'
  ·exact h.rules s hs'
  ·obtain rfl := List.mem_singleton.1 hs'
   exact ⟨i, j, A, A', h1, h2, hne, hv⟩
 ·rw [List.map_append]
  refine List.nodup_append.2 ⟨h.twice, by simp, fun x hx y hy e => ?_⟩
  subst e
  obtain ⟨s, hs', rfl⟩ := List.mem_map.1 hx
  simp only [List.map_cons, List.map_nil, List.mem_singleton, Prod.mk.injEq] at hy
  exact hw.hasnt hs hm hs' (hy.1 ▸ h1) (hy.2 ▸ h2)

set_option maxRecDepth 100000 in
set_option maxHeartbeats 4000000 in
theorem openB_any (b : Brid) (v : Value) (w : World) (h : BridAt w w.heap.size v b) :
  Calls Tryz.prog 82 #[v] w (OpenBPost b w) := by
 obtain ⟨a, c, a', c', rfl, hn, hr, hA, hR⟩ := h
 unfold maxLen at hn hr
 have hmm := @run_makeMap Tryz.prog
 go_enter Tryz.func82, Tryz.ntmps82
 have hbox : Box (w.alloc (.cells #[.slice a b.scripts.length c, .slice a' b.rules.length c'] 25)) w.heap.size [.slice a b.scripts.length c, .slice a' b.rules.length c'] := Box.new _ _ _
 obtain ⟨x0, x1⟩ := hbox.c2
 by_cases hlen : 1 ≤ b.scripts.length ∧ b.scripts.length ≤ 8
 case neg =>
  have hno : ¬ ValidB b := fun hv => hlen ⟨hv.scr.one, hv.scr.most⟩
  have Hno := Lib.hid hno
  clear hno
  by_cases h1 : 1 ≤ b.scripts.length
  ·have h8 : 8 < b.scripts.length := by omega
   clear hlen
   go_wp2_with fail
   go_ret2
   exact openB_no Hno.out ((Below.refl _ _).alloc (Nat.le_refl _) _)
  ·have h0 : b.scripts.length < 1 := by omega
   clear hlen
   go_wp2_with fail
   go_ret2
   exact openB_no Hno.out ((Below.refl _ _).alloc (Nat.le_refl _) _)
 obtain ⟨h1, h8⟩ := hlen
 go_wp2_with fail
 obtain ⟨W1, hW1⟩ : ∃ W1 : World, W1 = (w.alloc (.cells #[.slice a b.scripts.length c, .slice a' b.rules.length c'] 25)).alloc (.map #[] 0) := ⟨_, rfl⟩
 rw [← hW1]
 have hb1 : Below w.heap.size w W1 := by rw [hW1]; exact ((Below.refl _ _).alloc (Nat.le_refl _) _).alloc (by simp) _
 have hs1 : W1.heap.size = w.heap.size + 2 := by rw [hW1]; simp
 have hbx1 : Box W1 w.heap.size [.slice a b.scripts.length c, .slice a' b.rules.length c'] := by rw [hW1]; exact hbox.alloc (by simp) _
 have hM0 : MapIs W1 (w.heap.size + 1) OkStr (pairs (b.names.take 0)) := by
  rw [hW1]; have := MapIs.made (w.alloc (.cells #[.slice a b.scripts.length c, .slice a' b.rules.length c'] 25)) OkStr
  simpa [pairs] using this
 have hnl : b.names.length = b.scripts.length := by unfold Brid.names; rw [List.length_map]
 have HM0 := Lib.hid hM0
 have Hk := Lib.hid (fun (wr : World) (hbr : Below (w.heap.size + 1) W1 wr) => And.intro (hbx1.below hbr (by omega)).c2 (And.intro (hb1.trans (hbr.mono (by omega))) (And.intro (hA.below (hb1.trans (hbr.mono (by omega))) (Nat.le_refl _)) (hR.below (hb1.trans (hbr.mono (by omega))) (Nat.le_refl _)))))
 have Hmm := Lib.hid (@run_makeMap Tryz.prog)
 have HA := Lib.hid hA
 clear hW1 hM0 hbx1 hbox x0 x1 hR hmm hA
 go_loopw [35] (fun i wr => ∃ k : Nat, k ≤ b.scripts.length ∧ i = .int .i64 k ∧ (∀ (j : Nat) A, j < k → b.scripts[j]? = some A → Valid10 A) ∧ (b.names.take k).Nodup ∧ MapIs wr (w.heap.size + 1) OkStr (pairs (b.names.take k)) ∧ Below (w.heap.size + 1) W1 wr) (fun i _ => b.scripts.length - (intOf i).toNat)
 case atStart => exact ⟨0, Nat.zero_le _, rfl, by simp, by simp, HM0.out, Below.refl _ _⟩
 case round =>
  obtain ⟨k, hk, rfl, hok, hnd, hM, hbr⟩ := hrel
  have Hok := Lib.hid hok
  have Hnd := Lib.hid hnd
  have HM := Lib.hid hM
  have hsr := hbr.size
  clear hok hnd hM
  by_cases hkl : k < b.scripts.length
  ·obtain ⟨⟨x0, x1⟩, hbw, hAr, hRr⟩ := Hk.out wr hbr
   obtain ⟨A, hAk⟩ : ∃ A, b.scripts[k]? = some A := ⟨_, List.getElem?_eq_getElem hkl⟩
   obtain ⟨g, o, la, lc, sa, sc, rfl, hg, c0, c1, c2, hAt⟩ := hAr.get hAk
   have Hkn := Lib.hid (show b.names[k]? = some A.name by unfold Brid.names; rw [List.getElem?_map, hAk]; rfl)
   have HAk := Lib.hid hAk
   clear hAr hRr hAk
   obtain ⟨W3, hW3⟩ : ∃ W3 : World, W3 = wr.alloc (.cells #[.string A.name, .slice la A.letters.length lc, .slice sa A.small.length sc] 89) := ⟨_, rfl⟩
   have hb3 : Below wr.heap.size wr W3 := by rw [hW3]; exact (Below.refl _ _).alloc (Nat.le_refl _) _
   have hs3 : W3.heap.size = wr.heap.size + 1 := by rw [hW3]; simp
   have hM3 := MapIs.below HM.out hb3 (MapIs.lt HM.out)
   have hbw3 := hbw.trans (hb3.mono (by omega))
   have hbr3 := hbr.trans (hb3.mono (by omega))
   have hA3 : AlphAt W3 W3.heap.size (.agg #[.string A.name, .slice la A.letters.length lc, .slice sa A.small.length sc]) A := (hAt.below hb3 (by have := hbw.size; omega)).more (by have := hbw3.size; omega)
   have hbx3 : Box W3 wr.heap.size [.string A.name, .slice la A.letters.length lc, .slice sa A.small.length sc] := by rw [hW3]; exact Box.new _ _ _
   by_cases hin : A.name ∈ b.names.take k
   ·obtain ⟨i, hi⟩ := List.getElem?_of_mem hin
    have hlk := look_pair_some hM3 hi
    have Hno := Lib.hid (show ¬ ValidB b from fun hv => by
     have hnd := hv.scr.names
     have hkn := Hkn.out
     rw [List.getElem?_take] at hi
     split at hi
     ·rename_i hik
      obtain ⟨q1, q2⟩ := List.getElem?_eq_some_iff.1 hi
      obtain ⟨r1, r2⟩ := List.getElem?_eq_some_iff.1 hkn
      have := (List.getElem_inj hnd).1 (q2.trans r2.symm)
      omega
     ·cases hi)
    rw [hW3] at hlk
    clear hin hi hM3 hA3 hbx3
    go_wp2_with fail
    go_ret2
    exact openB_no Hno.out (by rw [← hW3]; exact hbw3)
   ·have hlk := look_pair_none hM3 hin
    rw [hW3] at hlk
    have Hin := Lib.hid hin
    have HM3 := Lib.hid hM3
    clear hin hM3
    go_wp2_with fail
    rw [← hW3]
    refine (AValid_any A _ W3 hA3).mono ?_
    rintro e w4 ⟨rfl, hb4⟩
    have hbr4 := hbr3.trans (hb4.mono (by omega))
    have hbw4 := hbw3.trans (hb4.mono hbw3.size)
    obtain ⟨y0, y1, y2⟩ := (hbx3.below hb4 (by omega)).c3
    have hM4 := MapIs.below HM3.out hb4 (MapIs.lt HM3.out)
    clear hlk hA3 hbx3 hb4 c0 c1 c2
    by_cases hv : Valid10 A
    ·rw [decide_eq_true hv]
     have hno : ∀ p ∈ pairs (b.names.take k), p.1 ≠ .string A.name := fun p hp he => by
      obtain ⟨i, s, hi, rfl⟩ := mem_pairs.1 hp
      have : s = A.name := by simpa using he
      subst this
      exact Hin.out (List.mem_of_getElem? hi)
     obtain ⟨w6, hrun, hM6, hg6, hs6⟩ := MapIs.put_new hM4 keyStr Tryz.underlying141 (key := .string A.name) (okStr _) hno (.int .i64 (k : Int))
     have hbr6 : Below (w.heap.size + 1) W1 w6 := hbr4.grown hg6 (by have := hbr4.size; omega) (fun j hj => by cases hj; exact Nat.le_refl _)
     have hkn : k < b.names.length := by rw [hnl]; exact hkl
     have Hend := Lib.hid (show (∀ (j : Nat) A, j < k + 1 → b.scripts[j]? = some A → Valid10 A) ∧ (b.names.take (k + 1)).Nodup ∧ MapIs w6 (w.heap.size + 1) OkStr (pairs (b.names.take (k + 1))) from by
      have e1 : b.names[k] = A.name := by
       have := Hkn.out; rw [List.getElem?_eq_getElem hkn] at this; exact Option.some.inj this
      refine ⟨fun j A' hj hA' => ?_, ?_, ?_⟩
      ·rcases Nat.lt_succ_iff_lt_or_eq.1 hj with h | rfl
       ·exact Hok.out j A' h hA'
       ·rw [HAk.out] at hA'; obtain rfl := Option.some.inj hA'; exact hv
      ·rw [List.take_succ_eq_append_getElem hkn, e1]
       refine List.nodup_append.2 ⟨Hnd.out, by simp, fun y hy z hz e => ?_⟩
       have : z = A.name := by simpa using hz
       subst this; subst e
       exact Hin.out hy
      ·rw [pairs_snoc _ _ hkn, e1]; exact hM6)
     clear hno hM6 hg6 hs6 hM4 hv
     go_wp2_with fail
     exact ⟨⟨k + 1, by omega, by go_num, Hend.out.1, Hend.out.2.1, Hend.out.2.2, hbr6⟩, by simp [intOf]; omega⟩
    ·rw [decide_eq_false hv]
     have Hno := Lib.hid (show ¬ ValidB b from fun h => hv (h.scr.alph A (List.mem_of_getElem? HAk.out)))
     clear hv hM4
     go_wp2_with fail
     go_ret2
     exact openB_no Hno.out hbw4
  ·obtain rfl : k = b.scripts.length := by omega
   have hscr : ScrOk b := ⟨h1, h8, fun A hA' => by
    obtain ⟨i, hi⟩ := List.getElem?_of_mem hA'
    exact Hok.out i A (List.getElem?_eq_some_iff.1 hi).1 hi, by have := Hnd.out; rwa [← hnl, List.take_length] at this⟩
   have Hscr := Lib.hid hscr
   have HMn := Lib.hid (show MapIs wr (w.heap.size + 1) OkStr (pairs b.names) by have := HM.out; rwa [← hnl, List.take_length] at this)
   obtain ⟨⟨x0, x1⟩, hbw, _, _⟩ := Hk.out wr hbr
   have hmm := Hmm.out
   have hlt : w.heap.size < wr.heap.size := by omega
   clear hscr Hok Hnd HM
   go_wp2_with fail
   obtain ⟨wo, rfl⟩ : ∃ wo : World, wo = wr := ⟨_, rfl⟩
   obtain ⟨W5, hW5⟩ : ∃ W5 : World, W5 = wo.alloc (.map #[] 0) := ⟨_, rfl⟩
   rw [← hW5]
   have hb5 : Below wo.heap.size wo W5 := by rw [hW5]; exact (Below.refl _ _).alloc (Nat.le_refl _) _
   have hs5 : W5.heap.size = wo.heap.size + 1 := by rw [hW5]; simp
   have hM5 : MapIs W5 wo.heap.size OkTT [] := by rw [hW5]; exact MapIs.made _ _
   have HM5 := Lib.hid hM5
   have Hk2 := Lib.hid (fun (wx : World) (hbx : Below wo.heap.size W5 wx) => have hx := hb5.trans (hbx.mono (Nat.le_refl _)); And.intro (Hk.out wx (hbr.trans (hx.mono (by omega)))) (MapIs.below HMn.out hx (MapIs.lt HMn.out)))
   clear hW5 hM5 hmm x0 x1
   go_loopw [62] (fun i wr => ∃ (k : Nat) (es : List (Value × Value)), k ≤ b.rules.length ∧ i = .int .i64 k ∧ RlsOk b (b.rules.take k) ∧ MapIs wr wo.heap.size OkTT es ∧ WaysAt wr w.heap.size b (b.rules.take k) es ∧ Below wo.heap.size W5 wr ∧ wo.heap.size < wr.heap.size) (fun i _ => b.rules.length - (intOf i).toNat)
   case atStart => exact ⟨0, [], Nat.zero_le _, rfl, ⟨by simp, by simp⟩, HM5.out, ⟨rfl, by simp⟩, Below.refl _ _, by omega⟩
   case round =>
    obtain ⟨k, es, hk, rfl, hok, hM, hway, hbx, hltx⟩ := hrel
    have Hok := Lib.hid hok
    have HM := Lib.hid hM
    have Hway := Lib.hid hway
    obtain ⟨⟨⟨x0, x1⟩, hbwx, hAx, hRx⟩, hNx⟩ := Hk2.out wr hbx
    clear hok hM hway
    by_cases hkr : k < b.rules.length
    ·obtain ⟨R, hRk⟩ : ∃ R, b.rules[k]? = some R := ⟨_, List.getElem?_eq_getElem hkr⟩
     obtain ⟨g, o, la, lc, rfl, hg, c0, c1, c2, hRt⟩ := hRx.get hRk
     have HRk := Lib.hid hRk
     have HRm := Lib.hid (List.mem_of_getElem? hRk)
     have HRt := Lib.hid hRt
     clear hRx hRk hRt
     obtain ⟨W7, hW7⟩ : ∃ W7 : World, W7 = wr.alloc (.cells #[.string R.src, .string R.dst, .slice la R.list.length lc] 106) := ⟨_, rfl⟩
     have hb7 : Below wr.heap.size wr W7 := by rw [hW7]; exact (Below.refl _ _).alloc (Nat.le_refl _) _
     have hs7 : W7.heap.size = wr.heap.size + 1 := by rw [hW7]; simp
     have hbx7 : Box W7 wr.heap.size [.string R.src, .string R.dst, .slice la R.list.length lc] := by rw [hW7]; exact Box.new _ _ _
     obtain ⟨v1, t1, hlk1, hv1⟩ := look_names (b := b) R.src
     obtain ⟨v2, t2, hlk2, hv2⟩ := look_names (b := b) R.dst
     obtain ⟨s0, s1, ra, rn, rc, t3, hlk3, hv3⟩ := look_ways es (v1, v2) Hway.out.aggs
     have e1 := hlk1 W7 (w.heap.size + 1) (hNx.below hb7 hNx.lt)
     have e2 := hlk2 W7 (w.heap.size + 1) (hNx.below hb7 hNx.lt)
     have e3 := hlk3 W7 wo.heap.size (MapIs.below HM.out hb7 (MapIs.lt HM.out))
     rw [hW7] at e1 e2 e3
     clear hlk1 hlk2 hlk3 hNx
     go_wp2_with fail
     rw [← hW7] at e1 e2 e3 ⊢
     obtain ⟨W8, hW8⟩ : ∃ W8 : World, W8 = W7.alloc (.cells #[.string s0, .string s1, .slice ra rn rc] 106) := ⟨_, rfl⟩
     rw [← hW8]
     have hb8 : Below W7.heap.size W7 W8 := by rw [hW8]; exact (Below.refl _ _).alloc (Nat.le_refl _) _
     have hs8 : W8.heap.size = W7.heap.size + 1 := by rw [hW8]; simp
     have hb78 := hb7.trans (hb8.mono (by omega))
     have hbx8 : Below wo.heap.size W5 W8 := hbx.trans (hb78.mono (by omega))
     have Hk8 := Lib.hid (fun (wx : World) (hbx9 : Below W8.heap.size W8 wx) => And.intro (Hk2.out wx (hbx8.trans (hbx9.mono (by have := hbx8.size; omega)))) (And.intro ((hbx7.below hb8 (by omega)).below hbx9 (by omega)).c3 (hb78.trans (hbx9.mono hb78.size))))
     clear hW8 hW7 hbx7 e1 e2 e3 c0 c1 c2 x0 x1
     obtain ⟨⟨⟨⟨x0, x1⟩, hbw8, hA8, hR8⟩, _⟩, ⟨y0, y1, y2⟩, _⟩ := Hk8.out W8 (Below.refl _ _)
     clear hR8
     rcases hv1 with ⟨rfl, i, A, hi, rfl⟩ | ⟨rfl, hni, rfl⟩
     case inr =>
      have Hno := Lib.hid (show ¬ ValidB b from fun hv => by
       obtain ⟨i, j, A, A', q1, _⟩ := hv.rls.rules R HRm.out
       exact hni (Brid.no_mem q1))
      clear hv2 hv3 hni hA8
      go_quiet (fail)
      go_wp2
      go_ret2
      exact openB_no Hno.out (Go.below_drewN hbw8 _)
     rcases hv2 with ⟨rfl, j, A', hj, rfl⟩ | ⟨rfl, hnj, rfl⟩
     case inr =>
      have Hno := Lib.hid (show ¬ ValidB b from fun hv => by
       obtain ⟨i, j, A, A', _, q1, _⟩ := hv.rls.rules R HRm.out
       exact hnj (Brid.no_mem q1))
      clear hv3 hnj hA8 hi
      go_quiet (fail)
      go_wp2
      go_ret2
      exact openB_no Hno.out (Go.below_drewN hbw8 _)
     have Hij := Lib.hid (And.intro hi hj)
     rcases hv3 with ⟨rfl, hm3⟩ | ⟨rfl, hm3⟩
     ·have Hno := Lib.hid (show ¬ ValidB b from fun hv => by
       obtain ⟨r, hr, A2, A2', q1, q2, _⟩ := Hway.out.has hm3
       obtain ⟨m, hm⟩ := List.getElem?_of_mem hr
       have hml := (List.getElem?_eq_some_iff.1 hm).1
       rw [List.length_take] at hml
       rw [List.getElem?_take, if_pos (by omega)] at hm
       have eA : A = A2 := Option.some.inj (Hij.out.1.1.symm.trans q1.1)
       have eB : A' = A2' := Option.some.inj (Hij.out.2.1.symm.trans q2.1)
       subst eA eB
       have e1 : r.src = R.src := q1.2.symm.trans Hij.out.1.2
       have e2 : r.dst = R.dst := q2.2.symm.trans Hij.out.2.2
       obtain ⟨m1, m2⟩ := List.getElem?_eq_some_iff.1 hm
       obtain ⟨k1, k2⟩ := List.getElem?_eq_some_iff.1 HRk.out
       have : m = k := by
        refine (List.getElem_inj (h₀ := by simpa using m1) (h₁ := by simpa using k1) hv.rls.twice).1 ?_
        rw [List.getElem_map, List.getElem_map, m2, k2, e1, e2]
       omega)
      clear hi hj hm3 hA8
      go_quiet (fail)
      go_wp2
      go_ret2
      exact openB_no Hno.out (Go.below_drewN hbw8 _)
     by_cases hne : i = j
     ·have d1 : ((i : Int) == (j : Int)) = true := by rw [hne]; simp
      have Hno := Lib.hid (show ¬ ValidB b from fun hv => by
       obtain ⟨i', j', B, B', q1, q2, q3, _⟩ := hv.rls.rules R HRm.out
       obtain ⟨rfl, _⟩ := Brid.no_uniq hv.scr.names Hij.out.1 q1
       obtain ⟨rfl, _⟩ := Brid.no_uniq hv.scr.names Hij.out.2 q2
       exact q3 hne)
      clear hi hj hm3 hA8 hne
      go_quiet (fail)
      go_wp2
      go_ret2
      exact openB_no Hno.out (Go.below_drewN hbw8 _)
     have d1 : ((i : Int) == (j : Int)) = false := by rw [beq_eq_false_iff_ne]; omega
     have Hne := Lib.hid hne
     have Hm3 := Lib.hid hm3
     have hil : i < b.scripts.length := (List.getElem?_eq_some_iff.1 hi.1).1
     have hjl : j < b.scripts.length := (List.getElem?_eq_some_iff.1 hj.1).1
     obtain ⟨g1, o1, la1, lc1, sa1, sc1, ea, hg1, p0, p1, p2, hAi⟩ := hA8.get hi.1
     obtain ⟨g2, o2, la2, lc2, sa2, sc2, ea2, hg2, q0, q1, q2, hAj⟩ := hA8.get hj.1
     subst ea
     obtain ⟨rfl, rfl⟩ : g1 = g2 ∧ o1 = o2 := by simpa using ea2
     have hw8 := hbw8.size
     have hRr : RulsAt W8 W8.heap.size (.agg #[.string R.src, .string R.dst, .slice la R.list.length lc]) R := (HRt.out.below hb78 (by have := hbwx.size; omega)).more hw8
     have hAi8 := hAi.more hw8
     have hAj8 := hAj.more hw8
     have HS := Lib.hid (fun (wx : World) (hb9 : Below W8.heap.size W8 wx) => (show (wx.cell? ⟨w.heap.size, 0, none⟩ = some (.slice (some ⟨g1, o1, none⟩) b.scripts.length c) ∧ wx.cell? ⟨wr.heap.size, 0, none⟩ = some (.string R.src) ∧ wx.cell? ⟨wr.heap.size, 1, none⟩ = some (.string R.dst) ∧ wx.cell? ⟨wr.heap.size, 2, none⟩ = some (.slice la R.list.length lc) ∧
       wx.cell? ⟨g1, o1 + i * 3, none⟩ = some (.string A.name) ∧ wx.cell? ⟨g1, o1 + i * 3 + 1, none⟩ = some (.slice la1 A.letters.length lc1) ∧ wx.cell? ⟨g1, o1 + i * 3 + 2, none⟩ = some (.slice sa1 A.small.length sc1) ∧
       wx.cell? ⟨g1, o1 + j * 3, none⟩ = some (.string A'.name) ∧ wx.cell? ⟨g1, o1 + j * 3 + 1, none⟩ = some (.slice la2 A'.letters.length lc2) ∧ wx.cell? ⟨g1, o1 + j * 3 + 2, none⟩ = some (.slice sa2 A'.small.length sc2)) from by
      have k : ∀ (g i : Nat), g < W8.heap.size → wx.cell? ⟨g, i, none⟩ = W8.cell? ⟨g, i, none⟩ := fun g i hg => hb9.cell (p := ⟨g, i, none⟩) hg
      exact ⟨(k _ _ (by omega)).trans x0, (k _ _ (by omega)).trans y0, (k _ _ (by omega)).trans y1, (k _ _ (by omega)).trans y2, (k _ _ (by omega)).trans p0, (k _ _ (by omega)).trans p1, (k _ _ (by omega)).trans p2, (k _ _ (by omega)).trans q0, (k _ _ (by omega)).trans q1, (k _ _ (by omega)).trans q2⟩))
     have HV := Lib.hid (show RulsAt W8.drew W8.drew.heap.size (.agg #[.string R.src, .string R.dst, .slice la R.list.length lc]) R ∧ AlphAt W8.drew W8.drew.heap.size (.agg #[.string A.name, .slice la1 A.letters.length lc1, .slice sa1 A.small.length sc1]) A ∧ AlphAt W8.drew W8.drew.heap.size (.agg #[.string A'.name, .slice la2 A'.letters.length lc2, .slice sa2 A'.small.length sc2]) A' from
      have hd := (Below.refl W8.heap.size W8).drew; ⟨hRr.below hd (Nat.le_refl _), hAi8.below hd (Nat.le_refl _), hAj8.below hd (Nat.le_refl _)⟩)
     clear hi hj hm3 hA8 hAi hAj hRr hAi8 hAj8 hne hg2
     go_region_held3 (fun w' => w'.cell? ⟨w.heap.size, 0, none⟩ = some (.slice (some ⟨g1, o1, none⟩) b.scripts.length c) ∧ w'.cell? ⟨wr.heap.size, 0, none⟩ = some (.string R.src) ∧ w'.cell? ⟨wr.heap.size, 1, none⟩ = some (.string R.dst) ∧ w'.cell? ⟨wr.heap.size, 2, none⟩ = some (.slice la R.list.length lc) ∧
       w'.cell? ⟨g1, o1 + i * 3, none⟩ = some (.string A.name) ∧ w'.cell? ⟨g1, o1 + i * 3 + 1, none⟩ = some (.slice la1 A.letters.length lc1) ∧ w'.cell? ⟨g1, o1 + i * 3 + 2, none⟩ = some (.slice sa1 A.small.length sc1) ∧
       w'.cell? ⟨g1, o1 + j * 3, none⟩ = some (.string A'.name) ∧ w'.cell? ⟨g1, o1 + j * 3 + 1, none⟩ = some (.slice la2 A'.letters.length lc2) ∧ w'.cell? ⟨g1, o1 + j * 3 + 2, none⟩ = some (.slice sa2 A'.small.length sc2))
      (first | exact ⟨x0, y0, y1, y2, p0, p1, p2, q0, q1, q2⟩ | exact hs9 | go_keep)
      (first | (go_at_call 136; refine (RValid_any R A A' _ _ _ W8.drew HV.out.1 HV.out.2.1 HV.out.2.2).mono ?_; rintro e w9 ⟨rfl, hb9⟩; have hb89 := (Below.refl W8.heap.size W8).drew.trans (hb9.mono (Nat.le_refl _)); have hs9 := HS.out w9 hb89) | fail)
     obtain ⟨sx0, sy0, sy1, sy2, -, -, -, -, -, -⟩ := hs9
     have hbr9 : Below wr.heap.size wr w9 := hb78.trans (hb89.mono hb78.size)
     have hbw9 : Below w.heap.size w w9 := hbw8.trans (hb89.mono hw8)
     have hbx9 : Below wo.heap.size W5 w9 := hbx8.trans (hb89.mono (by have := hbx8.size; omega))
     clear x0 x1 y0 y1 y2 p0 p1 p2 q0 q1 q2 hb9
     by_cases hval : Valid11 R A A'
     ·rw [decide_eq_true hval]
      have hM9 := MapIs.below HM.out hbr9 (MapIs.lt HM.out)
      obtain ⟨w10, hrun, hM10, hg10, hs10⟩ := MapIs.put_new hM9 keyTT Tryz.underlying137 (key := ttV ((i : Int), (j : Int))) ⟨_, rfl⟩ Hm3.out (.agg #[.string R.src, .string R.dst, .slice la R.list.length lc])
      have hbx10 : Below wo.heap.size W5 w10 := hbx9.grown hg10 (by have := hbx9.size; omega) (fun y hy => by cases hy; exact Nat.le_refl _)
      have hbr10 : Below wo.heap.size wr w10 := (hbr9.mono (by omega)).grown hg10 (by have := hbr9.size; omega) (fun y hy => by cases hy; exact Nat.le_refl _)
      have hlt10 : wo.heap.size < w10.heap.size := by have := hbr10.size; omega
      have Hend := Lib.hid (show RlsOk b (b.rules.take (k + 1)) ∧ MapIs w10 wo.heap.size OkTT (es ++ [(ttV ((i : Int), (j : Int)), .agg #[.string R.src, .string R.dst, .slice la R.list.length lc])]) ∧ WaysAt w10 w.heap.size b (b.rules.take (k + 1)) (es ++ [(ttV ((i : Int), (j : Int)), .agg #[.string R.src, .string R.dst, .slice la R.list.length lc])]) from by
       have htk : b.rules.take (k + 1) = b.rules.take k ++ [R] := by
        rw [List.take_succ_eq_append_getElem hkr]
        have := HRk.out; rw [List.getElem?_eq_getElem hkr] at this; rw [Option.some.inj this]
       have hwb := hbw.size
       rw [htk]
       exact ⟨RlsOk.snoc Hscr.out.names Hok.out Hway.out Hij.out.1 Hij.out.2 Hne.out hval Hm3.out, hM10, (Hway.out.below hbr10 hwb).snoc Hij.out.1 Hij.out.2 (HRt.out.below hbr10 hwb)⟩)
      unfold ttV at hrun
      clear hM9 hM10 hg10 hs10 hval
      go_wp2_with fail
      exact ⟨⟨k + 1, _, by omega, by go_num, Hend.out.1, Hend.out.2.1, Hend.out.2.2, hbx10, hlt10⟩, by simp [intOf]; omega⟩
     ·rw [decide_eq_false hval]
      have Hno := Lib.hid (show ¬ ValidB b from fun hv => by
       obtain ⟨i', j', B, B', q1, q2, q3, q4⟩ := hv.rls.rules R HRm.out
       obtain ⟨rfl, rfl⟩ := Brid.no_uniq hv.scr.names Hij.out.1 q1
       obtain ⟨rfl, rfl⟩ := Brid.no_uniq hv.scr.names Hij.out.2 q2
       exact hval q4)
      clear hval
      go_wp2_with fail
      go_ret2
      exact openB_no Hno.out hbw9
    ·obtain rfl : k = b.rules.length := by omega
     have hrl : RlsOk b b.rules := by have := Hok.out; rwa [List.take_length] at this
     have Hrl := Lib.hid hrl
     have Hwn := Lib.hid (show WaysAt wr w.heap.size b b.rules es by have := Hway.out; rwa [List.take_length] at this)
     clear hrl Hok Hway
     go_wp2_with fail
     obtain ⟨wp, rfl⟩ : ∃ wp : World, wp = wr := ⟨_, rfl⟩
     clear x0 x1
     go_loopw [19] (fun i wr => ∃ m : Nat, 1 ≤ m ∧ m ≤ b.scripts.length ∧ i = .int .i64 m ∧ (∀ q : Nat, 1 ≤ q → q < m → ∃ v, (ttV ((q : Int), 0), v) ∈ es) ∧ Below wp.heap.size wp wr) (fun i _ => b.scripts.length - (intOf i).toNat)
     case atStart => exact ⟨1, Nat.le_refl _, h1, rfl, fun q _ _ => by omega, Below.refl _ _⟩
     case round =>
      obtain ⟨m, hm1, hm, rfl, hall, hbp⟩ := hrel
      have Hall := Lib.hid hall
      have hbwr := hbwx.trans (hbp.mono hbwx.size)
      have hMr := MapIs.below HM.out hbp (MapIs.lt HM.out)
      clear hall
      by_cases hml : m < b.scripts.length
      ·obtain ⟨s0, s1, ra, rn, rc, t3, hlk3, hv3⟩ := look_ways es ((m : Int), 0) Hwn.out.aggs
       have e3 := hlk3 wr wo.heap.size hMr
       have hb9 : Below w.heap.size w (wr.alloc (.cells #[.string s0, .string s1, .slice ra rn rc] 106)) := hbwr.alloc hbwr.size _
       have hbp9 : Below wp.heap.size wp (wr.alloc (.cells #[.string s0, .string s1, .slice ra rn rc] 106)) := hbp.alloc hbp.size _
       clear hlk3 hMr
       rcases hv3 with ⟨rfl, hin⟩ | ⟨rfl, hno3⟩
       ·have Hend := Lib.hid (show ∀ q : Nat, 1 ≤ q → q < m + 1 → ∃ v, (ttV ((q : Int), 0), v) ∈ es from fun q h1 h2 => by
         rcases Nat.lt_succ_iff_lt_or_eq.1 h2 with h | rfl
         ·exact Hall.out q h1 h
         ·exact ⟨_, hin⟩)
        clear hin
        go_wp2_with fail
        exact ⟨⟨m + 1, by omega, by omega, by go_num, Hend.out, hbp9⟩, by simp [intOf]; omega⟩
       ·have Hno := Lib.hid (show ¬ ValidB b from fun hv => by
         have h0 : b.scripts[0]? = some b.scripts[0] := List.getElem?_eq_getElem (by omega)
         obtain ⟨r, hr, q1, q2⟩ := hv.base m _ _ hm1 (List.getElem?_eq_getElem hml) h0
         exact Hwn.out.hasnt hv.scr.names (i := m) (j := 0) hno3 hr ⟨List.getElem?_eq_getElem hml, q1.symm⟩ ⟨h0, q2.symm⟩)
        clear hno3
        go_wp2_with fail
        go_ret2
        exact openB_no Hno.out hb9
      ·have hme : m = b.scripts.length := by omega
       have Hv := Lib.hid (show ValidB b from ⟨Hscr.out, Hrl.out, fun i A B hi hA hB => by
        obtain ⟨v, hv⟩ := Hall.out i hi (by have := (List.getElem?_eq_some_iff.1 hA).1; omega)
        obtain ⟨r, hr, A1, B1, q1, q2, _⟩ := Hwn.out.has (i := i) (j := 0) hv
        obtain rfl := Option.some.inj (hA.symm.trans q1.1)
        obtain rfl := Option.some.inj (hB.symm.trans q2.1)
        exact ⟨r, hr, q1.2.symm, q2.2.symm⟩⟩)
       have HW := Lib.hid (Hwn.out.below hbp (hbwx.size))
       have HMr := Lib.hid hMr
       clear hMr
       go_wp2_with fail
       go_ret2
       exact openB_yes Hv.out (by have := hbw.size; omega) HMr.out HW.out hbwr
end Go.Proofs.YthachfkcgdfdfaaGreatDoor
/- N5 · N7 · N6 -/
/- Plain words: rules without a context and an end: what two words lead to, one after the other. No program in sight. -/
namespace Go.Proofs.YthachfkcgdfdfaaGreatDoor
open Go Classical

/-- The place behind a first word's text. -/
def behind (t : ByteArray) (p : Plc) : Plc := ⟨if p.st = 0 then 1 else p.st, t ++ p.tx⟩
end Go.Proofs.YthachfkcgdfdfaaGreatDoor

/- Plain words: how long the texts of results are. No program in sight. -/
namespace Go.Proofs.YthachfkcgdfdfaaGreatDoor
open Go Classical

theorem cl_steps {M : Mach} {S : Plc → Prop} {L : Nat} (hS : ∀ q, S q → q.tx.size ≤ L) {p : Plc} (hp : Cl M S p) : ∀ n, L < n → n ≤ p.tx.size → ∃ q, Cl M S q ∧ q.tx.size = n := by
 induction hp with
 | base h0 => intro n h1 h2; have := hS _ h0; omega
 | @more p q h hg ih =>
  intro n h1 h2
  by_cases e : n = q.tx.size
  ·exact ⟨q, .more h hg, e.symm⟩
  ·obtain ⟨a, _, _, _, rfl⟩ := hg
   have := afterB_size p.tx a.out
   refine ih n h1 ?_
   have h2' : n ≤ (afterB p.tx a.out).size := h2
   have e' : n ≠ (afterB p.tx a.out).size := e
   omega
theorem cl_size {M : Mach} {S : Plc → Prop} {L : Nat} (hS : ∀ q, S q → q.tx.size ≤ L) (hf : FewPl (Cl M S)) {p : Plc} (hp : Cl M S p) : p.tx.size ≤ L + 2000 := by
 obtain ⟨ks, hk, hm⟩ := hf
 by_cases h : p.tx.size ≤ L
 ·omega
 have h1 : ∀ n ∈ List.range' (L + 1) (p.tx.size - L), n ∈ ks.map (fun q => q.tx.size) := fun n hn => by
  rw [List.mem_range'_1] at hn
  obtain ⟨q, hq, e⟩ := cl_steps hS hp n (by omega) (by omega)
  exact List.mem_map.2 ⟨q, hm q hq, e⟩
 have h2 := nodup_len List.nodup_range' h1
 rw [List.length_map, List.length_range'] at h2
 omega
set_option maxRecDepth 100000 in
theorem reach_size {M : Mach} (k : Nat) : ∀ (l : List UInt8), l.length = k → (∀ i, i ≤ l.length → FewPl (Reach M (l.take i))) → ∀ p, Reach M l p → p.tx.size ≤ (k + 1) * 2001 := by
 induction k with
 | zero =>
  intro l hl hf p hp
  obtain rfl := List.length_eq_zero_iff.1 hl
  have h0 := hf 0 (Nat.le_refl _)
  rw [List.take_nil, Reach_nil] at h0
  rw [Reach_nil] at hp
  have := cl_size (L := 0) (fun q hq => by subst hq; exact Nat.le_refl _) h0 hp
  omega
 | succ k ih =>
  intro l hl hf p hp
  have hne : l ≠ [] := by intro e; subst e; simp at hl
  obtain ⟨l', b, rfl⟩ : ∃ l' b, l = l' ++ [b] := ⟨l.dropLast, l.getLast hne, (List.dropLast_concat_getLast hne).symm⟩
  have hl' : l'.length = k := by simpa using hl
  by_cases hb : b = 0
  ·subst hb
   unfold Reach at hp
   simp at hp
  ·have hlast := hf (l' ++ [b]).length (Nat.le_refl _)
   rw [List.take_length, Reach_snoc _ _ _ hb] at hlast
   rw [Reach_snoc _ _ _ hb] at hp
   have ih' := ih l' hl' (fun i hi => by
    have := hf i (by simp; omega)
    rwa [List.take_append_of_le_length hi] at this)
   have := cl_size (L := (k + 1) * 2001 + 1) (fun q hq => by
    unfold Setout at hq
    split at hq
    ·exact Nat.le_succ_of_le (ih' q hq)
    ·obtain ⟨q', h1, a, _, _, _, rfl⟩ := hq
     have h2 := ih' q' h1
     have h3 := afterB_size q'.tx a.out
     show (afterB q'.tx a.out).size ≤ _
     omega) hlast hp
   clear hlast ih' ih hf hl hl'
   rw [Nat.succ_mul (k + 1) 2001]
   generalize (k + 1) * 2001 = m at this ⊢
   omega
theorem runs_size {M : Mach} {x : List UInt8} {ts : List ByteArray} {err : Int} (h : RunsOf M x ts err) {t : ByteArray} (ht : t ∈ ts) : t.size ≤ 1000000 := by
 rcases h with ⟨_, h, _⟩ | ⟨⟨_, h4⟩, ⟨_, h, _⟩ | ⟨_, ⟨_, h, _⟩ | ⟨hf, _, _, h⟩⟩⟩
 ·subst h; simp at ht
 ·subst h; simp at ht
 ·subst h; simp at ht
 ·obtain ⟨_, s, _, hr⟩ := (h t).1 ht
  have h1 := reach_size x.length x rfl hf _ hr
  have h2 : (x.length + 1) * 2001 ≤ 401 * 2001 := Nat.mul_le_mul_right _ (by omega)
  have h3 : t.size ≤ (x.length + 1) * 2001 := h1
  omega
end Go.Proofs.YthachfkcgdfdfaaGreatDoor

/- Walk: the law CompileParts. -/
namespace Go.Proofs.YthachfkcgdfdfaaGreatDoor
open Go.RowKit Classical

end Go.Proofs.YthachfkcgdfdfaaGreatDoor
