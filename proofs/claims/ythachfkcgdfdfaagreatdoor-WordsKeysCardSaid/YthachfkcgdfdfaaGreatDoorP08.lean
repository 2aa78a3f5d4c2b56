/- PB -/
import Derived.Test.YthachfkcgdfdfaaGreatDoorP06
/- CP · CU · CV · CW · PB -/
/- Plain words: the composition of two machines: pairs of states in the order in which they are found, and their arcs. No program in sight. -/
namespace Go.Proofs.YthachfkcgdfdfaaGreatDoor
open Go Classical

/-- A step of a pair of states: what is read, what is written, where it leads. -/
structure PStep where
 inp : Int
 out : Int
 dst : Int × Int
/-- The steps of a pair, in order. -/
noncomputable def stepsL (m n : List Arc) (x : Int × Int) : List PStep :=
 ((m.filter (fun a => decide (a.frm = x.1))).flatMap (fun a => if a.out = 0 then [⟨a.inp, 0, (a.to, x.2)⟩] else
  (n.filter (fun b => decide (b.frm = x.2 ∧ b.inp = a.out))).map (fun b => ⟨a.inp, b.out, (a.to, b.to)⟩))) ++
 (n.filter (fun b => decide (b.frm = x.2 ∧ b.inp = 0))).map (fun b => ⟨0, b.out, (x.1, b.to)⟩)
/-- The pairs that were found, and the arcs that were made. -/
structure PSt where
 ord : List (Int × Int)
 arcs : List Arc
noncomputable def addO (l : List (Int × Int)) (x : Int × Int) : List (Int × Int) := if x ∈ l then l else l ++ [x]
noncomputable def stepO (i : Nat) (st : PSt) (s : PStep) : PSt := ⟨addO st.ord s.dst, st.arcs ++ [⟨i, s.inp, s.out, ((addO st.ord s.dst).idxOf s.dst : Nat)⟩]⟩
noncomputable def rowO (m n : List Arc) (i : Nat) (st : PSt) : PSt := match st.ord[i]? with
 | some x => (stepsL m n x).foldl (stepO i) st
 | none => st
noncomputable def runO (m n : List Arc) : Nat → Nat → PSt → PSt
 | 0, _, st => st
 | f + 1, i, st => if i < st.ord.length then runO m n f (i + 1) (rowO m n i st) else st
/-- All pairs, and their arcs; 4000 pairs are followed at most. -/
noncomputable def composeO (M N : Mach) : PSt := runO M.arcs N.arcs 4000 0 ⟨[(M.start, N.start)], []⟩

section
variable {M N C : Mach} {ord : List (Int × Int)} {arcs : List Arc}
end

end Go.Proofs.YthachfkcgdfdfaaGreatDoor

/- Plain words: the union of two machines. No program in sight. -/
namespace Go.Proofs.YthachfkcgdfdfaaGreatDoor
open Go Classical

section
variable {M N U : Mach}
end
end Go.Proofs.YthachfkcgdfdfaaGreatDoor

/- Plain words: the laws on compositions, unions and inverses, as the runs of machines answer. No program in sight. -/
namespace Go.Proofs.YthachfkcgdfdfaaGreatDoor
open Go Classical

section
variable {K M N C : Mach}
end

end Go.Proofs.YthachfkcgdfdfaaGreatDoor

/- Plain words: how many pairs and arcs a composition of small machines has. No program in sight. -/
namespace Go.Proofs.YthachfkcgdfdfaaGreatDoor
open Go Classical

end Go.Proofs.YthachfkcgdfdfaaGreatDoor

/- CC · CR · CH · CO · CY · CQ · CS -/
/- Plain words: the machine that writes what it reads, for the words of an alphabet. No program in sight. -/
namespace Go.Proofs.YthachfkcgdfdfaaGreatDoor
open Go Classical

/-- The arcs of a letter: from states 0 and 1, over states of its own from base on, to state 1. -/
def letTo (l : List UInt8) (base k : Nat) : Int := if k + 1 = l.length then 1 else (base : Int) + (k : Int)
def letArcs (l : List UInt8) (base : Nat) : List Arc :=
 [⟨0, byteL l 0, byteL l 0, letTo l base 0⟩, ⟨1, byteL l 0, byteL l 0, letTo l base 0⟩] ++ (List.range (l.length - 1)).map fun j : Nat => (⟨(base : Int) + (j : Int), byteL l (j + 1), byteL l (j + 1), letTo l base (j + 1)⟩ : Arc)
def copyArcs : Nat → List (List UInt8) → List Arc
 | _, [] => []
 | base, l :: r => letArcs l base ++ copyArcs (base + l.length - 1) r
def copyStates : Nat → List (List UInt8) → Nat
 | base, [] => base
 | base, l :: r => copyStates (base + l.length - 1) r

/-- Letters, one after the other. -/
inductive Cat (LS : List (List UInt8)) : List UInt8 → Prop
 | one {l : List UInt8} : l ∈ LS → Cat LS l
 | more {x l : List UInt8} : Cat LS x → l ∈ LS → Cat LS (x ++ l)
/-- What Copy makes of the letters of a valid alphabet. -/
structure CopyM (LS : List (List UInt8)) (C : Mach) : Prop where
 states : C.states = (copyStates 2 LS : Nat)
 start : C.start = 0
 final : C.final = [1]
 arcsInc : Increasing C.arcs
 mem : ∀ a, a ∈ C.arcs ↔ a ∈ copyArcs 2 LS
end Go.Proofs.YthachfkcgdfdfaaGreatDoor

/- Plain words: reading a text by letters, and texts that are letters one after the other. No program in sight. -/
namespace Go.Proofs.YthachfkcgdfdfaaGreatDoor
open Go Classical

theorem cat_iff {L : List (List UInt8)} {x : List UInt8} : Cat L x ↔ ∃ ls : List (List UInt8), ls ≠ [] ∧ (∀ l ∈ ls, l ∈ L) ∧ x = ls.flatten := by
 constructor
 ·intro h
  induction h with
  | one hl => exact ⟨[_], by simp, fun m hm => by obtain rfl := List.mem_singleton.1 hm; exact hl, by simp⟩
  | more _ hl ih =>
   obtain ⟨ls, h1, h2, rfl⟩ := ih
   refine ⟨ls ++ [_], by simp, fun m hm => ?_, by rw [List.flatten_append]; simp; rfl⟩
   rcases List.mem_append.1 hm with hm | hm
   ·exact h2 m hm
   ·obtain rfl := List.mem_singleton.1 hm; exact hl
 ·rintro ⟨ls, h1, h2, rfl⟩
  have key : ∀ (n : Nat) (ls : List (List UInt8)), ls.length = n + 1 → (∀ l ∈ ls, l ∈ L) → Cat L ls.flatten := fun n => by
   induction n with
   | zero =>
    intro ls hl ha
    obtain ⟨l, rfl⟩ := List.length_eq_one_iff.1 hl
    simpa using Cat.one (ha l (by simp))
   | succ n ih =>
    intro ls hl ha
    have hne : ls ≠ [] := by intro e; subst e; simp at hl
    rw [← List.dropLast_concat_getLast hne, List.flatten_append]
    have := ih ls.dropLast (by rw [List.length_dropLast]; omega) (fun l hl => ha l (List.dropLast_subset _ hl))
    simpa using this.more (ha _ (List.getLast_mem hne))
  obtain ⟨m, hm⟩ : ∃ m, ls.length = m + 1 := ⟨ls.length - 1, by have := List.length_pos_iff.2 h1; omega⟩
  exact key m ls hm h2
/-- Letters that are told apart: no rest of a letter behind another one begins letters. -/
structure Told (L : List (List UInt8)) : Prop where
 nodup : L.Nodup
 len : ∀ l ∈ L, 1 ≤ l.length ∧ l.length ≤ 3
 apart : ∀ l ∈ L, ∀ m ∈ L, l ≠ m → m <+: l → ¬ Follows L (l.drop m.length)
theorem follows_pre {L : List (List UInt8)} : ∀ (ls : List (List UInt8)) (r : List UInt8), (∀ l ∈ ls, l ∈ L) → r ≠ [] → r <+: ls.flatten → Follows L r
 | [], r, _, hr, hp => absurd (List.prefix_nil.1 (by simpa using hp)) hr
 | l :: ls, r, h, hr, hp => by
  rw [List.flatten_cons] at hp
  rcases List.prefix_or_prefix_of_prefix hp (List.prefix_append l ls.flatten) with h1 | h1
  ·exact (follows_iff L r).2 ⟨l, h l (List.mem_cons_self ..), .inl h1⟩
  ·obtain ⟨r', rfl⟩ := h1
   by_cases e : r' = []
   ·subst e
    exact (follows_iff L _).2 ⟨l, h l (List.mem_cons_self ..), .inl (by simp)⟩
   ·have hp' : r' <+: ls.flatten := (List.prefix_append_right_inj l).1 hp
    exact (follows_iff L _).2 ⟨l, h l (List.mem_cons_self ..), .inr ⟨r', rfl, follows_pre ls r' (fun m hm => h m (List.mem_cons_of_mem _ hm)) e hp'⟩⟩
theorem at_cat {L : List (List UInt8)} (hT : Told L) {l : List UInt8} (hl : l ∈ L) {ls : List (List UInt8)} (ha : ∀ m ∈ ls, m ∈ L) : ∃ k, atF L (l ++ ls.flatten) = some k ∧ L[k]? = some l := by
 obtain ⟨k, hk⟩ := List.mem_iff_getElem?.1 hl
 refine ⟨k, ?_, hk⟩
 refine atN_best L hT.nodup _ k l hk (List.prefix_append _ _) (fun m hm hp => ?_) (hT.len l hl).1 3 (hT.len l hl).2
 rcases Nat.lt_or_ge l.length m.length with h | h
 ·exfalso
  have h1 : l <+: m := List.prefix_of_prefix_length_le (List.prefix_append l ls.flatten) hp (by omega)
  obtain ⟨r, rfl⟩ := h1
  have hr : r ≠ [] := by intro e; subst e; simp at h
  have h2 : r <+: ls.flatten := (List.prefix_append_right_inj l).1 hp
  have := hT.apart _ hm l hl (fun e => hr (by simpa using e)) (List.prefix_append _ _)
  rw [List.drop_left] at this
  exact this (follows_pre ls r ha hr h2)
 ·exact h
theorem readGo_cat {L : List (List UInt8)} (hT : Told L) : ∀ (ls : List (List UInt8)) (f o : Nat) (acc : List Int), (∀ m ∈ ls, m ∈ L) → (ls.length ≤ f → (readGo L f ls.flatten o acc).err = 0) ∧ (f < ls.length → (readGo L f ls.flatten o acc).err = 2)
 | [], f, o, acc, _ => by
  constructor
  ·intro _; cases f <;> simp [readGo]
  ·intro h; simp at h
 | l :: ls, f, o, acc, ha => by
  have hl := ha l (List.mem_cons_self ..)
  have ha' : ∀ m ∈ ls, m ∈ L := fun m hm => ha m (List.mem_cons_of_mem _ hm)
  obtain ⟨k, hk1, hk2⟩ := at_cat hT hl ha'
  have hne : ¬ (l ++ ls.flatten = []) := fun e => by
   have := (hT.len l hl).1
   rw [(List.append_eq_nil_iff.1 e).1] at this
   simp at this
  rw [List.flatten_cons]
  cases f with
  | zero =>
   constructor
   ·intro h; simp at h
   ·intro _
    unfold readGo
    rw [if_neg hne, hk1]
  | succ f =>
   obtain ⟨i1, i2⟩ := readGo_cat hT ls f (o + l.length) (acc ++ [(k : Int)]) ha'
   have e : readGo L (f + 1) (l ++ ls.flatten) o acc = readGo L f ls.flatten (o + l.length) (acc ++ [(k : Int)]) := by
    conv => lhs; unfold readGo
    rw [if_neg hne, hk1]
    simp only [hk2, Option.getD_some, List.drop_left]
   rw [e, List.length_cons]
   exact ⟨fun h => i1 (by omega), fun h => i2 (by omega)⟩
theorem readGo_ok {L : List (List UInt8)} : ∀ (f : Nat) (t : List UInt8) (o : Nat) (acc : List Int), (readGo L f t o acc).err = 0 → ∃ ls : List (List UInt8), (∀ m ∈ ls, m ∈ L) ∧ t = ls.flatten
 | 0, t, o, acc, h => by
  unfold readGo at h
  split at h
  ·rename_i e; exact ⟨[], by simp, by simpa using e⟩
  ·split at h <;> simp at h
 | f + 1, t, o, acc, h => by
  unfold readGo at h
  split at h
  ·rename_i e; exact ⟨[], by simp, by simpa using e⟩
  ·split at h
   ·simp at h
   ·rename_i k hk
    obtain ⟨l, h1, h2, _⟩ := atN_some hk
    obtain ⟨ls, q1, q2⟩ := readGo_ok f _ _ _ h
    rw [h1] at q2
    simp only [Option.getD_some] at q2
    refine ⟨l :: ls, fun m hm => ?_, by rw [List.flatten_cons, ← q2]; exact prefix_drop h2⟩
    rcases List.mem_cons.1 hm with rfl | hm
    ·exact List.mem_of_getElem? h1
    ·exact q1 m hm
theorem flatten_len {L : List (List UInt8)} (h : ∀ l ∈ L, 1 ≤ l.length) : ∀ ls : List (List UInt8), (∀ m ∈ ls, m ∈ L) → ls.length ≤ ls.flatten.length
 | [], _ => by simp
 | l :: ls, ha => by
  have h1 := h l (ha l (List.mem_cons_self ..))
  have h2 := flatten_len h ls (fun m hm => ha m (List.mem_cons_of_mem _ hm))
  rw [List.flatten_cons, List.length_append, List.length_cons]
  omega
theorem cat_of_read {L : List (List UInt8)} {x : List UInt8} (h : (readL L x).err = 0) : Cat L x := by
 unfold readL at h
 split at h
 ·simp at h
 ·rename_i hne
  obtain ⟨ls, h1, h2⟩ := readGo_ok 24 x 0 [] h
  exact cat_iff.2 ⟨ls, fun e => hne (by rw [h2, e]; rfl), h1, h2⟩
theorem told_of {A : Alph} (h : Valid10 A) : Told A.bls := by
 refine ⟨h.1.nodup, h.1.len, fun l hl m hm hne hp => ?_⟩
 obtain ⟨a, ha, rfl⟩ := List.mem_map.1 hl
 obtain ⟨b, hb, rfl⟩ := List.mem_map.1 hm
 obtain ⟨i, hi⟩ := List.mem_iff_getElem?.1 ha
 obtain ⟨k, hk⟩ := List.mem_iff_getElem?.1 hb
 rw [bl_length]
 exact h.2 i k a b (fun e => hne (by rw [e, hk] at hi; cases hi; rfl)) hi hk hp
theorem letters_print {A : Alph} (h : Valid10 A) : ∀ l ∈ A.bls, ∀ c ∈ l, 33 ≤ c.toNat ∧ c.toNat ≤ 126 := fun l hl c hc => by
 obtain ⟨a, ha, rfl⟩ := List.mem_map.1 hl
 have h1 := List.all_eq_true.1 (h.1.2.2.2.2.1 a ha).2.2 c hc
 simp [printC] at h1
 omega

theorem copyStates_le : ∀ (r : List (List UInt8)) (base : Nat), (∀ l ∈ r, l.length ≤ 3) → copyStates base r ≤ base + 2 * r.length
 | [], _, _ => Nat.le_refl _
 | l :: r, base, h => by
  have h1 := h l (List.mem_cons_self ..)
  have := copyStates_le r (base + l.length - 1) (fun m hm => h m (List.mem_cons_of_mem _ hm))
  simp only [copyStates, List.length_cons]; omega
end Go.Proofs.YthachfkcgdfdfaaGreatDoor

/- Plain words: the machines of layer 14's examples. No program in sight. -/
namespace Go.Proofs.YthachfkcgdfdfaaGreatDoor
open Go Classical

def tx (l : List UInt8) : ByteArray := ⟨l.toArray⟩
end Go.Proofs.YthachfkcgdfdfaaGreatDoor

/- Plain words: what composing, uniting and copying answer. No program in sight. -/
namespace Go.Proofs.YthachfkcgdfdfaaGreatDoor
open Go Classical

def zeroM : Mach := ⟨0, 0, [], []⟩
/-- The arcs of a list in order, each once. -/
def ArcsOf (l S : List Arc) : Prop := Increasing S ∧ ∀ a, a ∈ S ↔ a ∈ l
theorem ArcsOf.len {l S : List Arc} (h : ArcsOf l S) : S.length ≤ l.length := nodup_len h.1.nodup (fun a ha => (h.2 a).1 ha)

/-- A pair of final states. -/
def FinP (M N : Mach) (ord : List (Int × Int)) (j : Nat) : Prop := ∃ z, ord[j]? = some z ∧ z.1 ∈ M.final ∧ z.2 ∈ N.final
noncomputable def finO (M N : Mach) (ord : List (Int × Int)) (i : Nat) : List Int := ((List.range i).filter (fun j => decide (FinP M N ord j))).map (fun j : Nat => (j : Int))
/-- The composition before it is trimmed. -/
noncomputable def rawM (M N : Mach) (S : List Arc) : Mach := ⟨((composeO M N).ord.length : Nat), 0, finO M N (composeO M N).ord (composeO M N).ord.length, S⟩
def Big (M N : Mach) (S : List Arc) : Prop := 4000 < (composeO M N).ord.length ∨ 20000 < S.length
def CompOut (M N C : Mach) (err : Int) : Prop :=
 (¬ (ValidM M ∧ ValidM N) ∧ err = 1 ∧ C = zeroM) ∨ (ValidM M ∧ ValidM N ∧ ∃ S, ArcsOf (composeO M N).arcs S ∧ ((Big M N S ∧ err = 2 ∧ C = zeroM) ∨ (¬ Big M N S ∧ err = 0 ∧ C = trimM (rawM M N S))))
section
variable {M N C C' : Mach} {e e' : Int}
end

def CopyOut (A : Alph) (C : Mach) (err : Int) : Prop := (¬ Valid10 A ∧ err = 1 ∧ C = zeroM) ∨ (Valid10 A ∧ err = 0 ∧ CopyM A.bls C)
end Go.Proofs.YthachfkcgdfdfaaGreatDoor

/- Plain words: a machine composed with the copy of an alphabet. No program in sight. -/
namespace Go.Proofs.YthachfkcgdfdfaaGreatDoor
open Go Classical

section
variable {A : Alph} {M C D : Mach}
end
end Go.Proofs.YthachfkcgdfdfaaGreatDoor

/- Plain words: what is known while a composition is made, row by row. No program in sight. -/
namespace Go.Proofs.YthachfkcgdfdfaaGreatDoor
open Go Classical

section
variable {M N : Mach} {st st' : PSt} {i : Nat}
end
end Go.Proofs.YthachfkcgdfdfaaGreatDoor

/- Plain words: the arcs of the copy machine in the order in which they are made. No program in sight. -/
namespace Go.Proofs.YthachfkcgdfdfaaGreatDoor
open Go Classical

def frmL (b j : Nat) : Int := if j = 0 then 0 else (b : Int) + ((j - 1 : Nat) : Int)
def cpyOne (l : List UInt8) (b j : Nat) : List Arc := (⟨frmL b j, byteL l j, byteL l j, letTo l b j⟩ : Arc) :: (if j = 0 then [⟨1, byteL l 0, byteL l 0, letTo l b 0⟩] else [])
def cpyL (l : List UInt8) (b j : Nat) : List Arc := (List.range j).flatMap (cpyOne l b)
theorem cpyL_succ (l : List UInt8) (b j : Nat) : cpyL l b (j + 1) = cpyL l b j ++ cpyOne l b j := by
 unfold cpyL
 rw [List.range_succ, List.flatMap_append]
 simp
theorem cpyL_len (l : List UInt8) (b j : Nat) : (cpyL l b j).length ≤ 2 * j := by
 induction j with
 | zero => simp [cpyL]
 | succ j ih =>
  rw [cpyL_succ, List.length_append]
  have : (cpyOne l b j).length ≤ 2 := by unfold cpyOne; split <;> simp
  omega
theorem mem_cpyL {l : List UInt8} {b : Nat} (h : 1 ≤ l.length) (a : Arc) : a ∈ cpyL l b l.length ↔ a ∈ letArcs l b := by
 unfold cpyL letArcs
 simp only [List.mem_flatMap, List.mem_range, cpyOne, List.mem_append, List.mem_cons, List.not_mem_nil, or_false, List.mem_map]
 constructor
 ·rintro ⟨j, hj, rfl | ha⟩
  ·rcases Nat.eq_zero_or_pos j with rfl | h0
   ·left; left; simp [frmL]
   ·right
    refine ⟨j - 1, by omega, ?_⟩
    unfold frmL
    rw [if_neg (by omega), show j - 1 + 1 = j by omega]
  ·split at ha
   ·left; right; simpa using ha
   ·simp at ha
 ·rintro ((rfl | rfl) | ⟨j, hj, rfl⟩)
  ·exact ⟨0, by omega, .inl (by simp [frmL])⟩
  ·exact ⟨0, by omega, .inr (by simp)⟩
  ·refine ⟨j + 1, by omega, .inl ?_⟩
   unfold frmL
   rw [if_neg (by omega), show j + 1 - 1 = j by omega]
def cpyAll : Nat → List (List UInt8) → List Arc
 | _, [] => []
 | b, l :: r => cpyL l b l.length ++ cpyAll (b + l.length - 1) r
theorem mem_cpyAll (a : Arc) : ∀ (LS : List (List UInt8)) (b : Nat), (∀ l ∈ LS, 1 ≤ l.length) → (a ∈ cpyAll b LS ↔ a ∈ copyArcs b LS)
 | [], _, _ => by simp [cpyAll, copyArcs]
 | l :: r, b, h => by
  simp only [cpyAll, copyArcs, List.mem_append]
  rw [mem_cpyL (h l (List.mem_cons_self ..)), mem_cpyAll a r _ (fun z hz => h z (List.mem_cons_of_mem _ hz))]
theorem cpyAll_snoc (l : List UInt8) : ∀ (LS : List (List UInt8)) (b : Nat), cpyAll b (LS ++ [l]) = cpyAll b LS ++ cpyL l (copyStates b LS) l.length
 | [], b => by simp [cpyAll, copyStates]
 | x :: r, b => by
  simp only [List.cons_append, cpyAll, copyStates]
  rw [cpyAll_snoc l r, List.append_assoc]
theorem copyStates_snoc (l : List UInt8) : ∀ (LS : List (List UInt8)) (b : Nat), copyStates b (LS ++ [l]) = copyStates b LS + l.length - 1
 | [], b => by simp [copyStates]
 | x :: r, b => by
  simp only [List.cons_append, copyStates]
  exact copyStates_snoc l r _
theorem copy_final {LS : List (List UInt8)} {S : List Arc} (hn : ∀ l ∈ LS, 1 ≤ l.length) (hS : ArcsOf (cpyAll 2 LS) S) : CopyM LS ⟨(copyStates 2 LS : Nat), 0, [1], S⟩ :=
 ⟨rfl, rfl, rfl, hS.1, fun a => by rw [hS.2, mem_cpyAll a LS 2 hn]⟩
/-- What compose.Copy's two loops know: k letters are done. -/
def cpS (LS : List (List UInt8)) (k : Nat) : Nat := copyStates 2 (LS.take k)
def cpA (LS : List (List UInt8)) (k : Nat) : List Arc := cpyAll 2 (LS.take k)
theorem cpS_succ {LS : List (List UInt8)} {k : Nat} (hk : k < LS.length) : cpS LS (k + 1) = cpS LS k + LS[k].length - 1 := by
 unfold cpS
 rw [List.take_add_one, List.getElem?_eq_getElem hk]
 exact copyStates_snoc _ _ _
theorem cpA_succ {LS : List (List UInt8)} {k : Nat} (hk : k < LS.length) : cpA LS (k + 1) = cpA LS k ++ cpyL LS[k] (cpS LS k) LS[k].length := by
 unfold cpA cpS
 rw [List.take_add_one, List.getElem?_eq_getElem hk]
 exact cpyAll_snoc _ _ _
theorem cpA_len {LS : List (List UInt8)} (h3 : ∀ l ∈ LS, l.length ≤ 3) : ∀ k, k ≤ LS.length → (cpA LS k).length ≤ 6 * k
 | 0, _ => by simp [cpA, cpyAll]
 | k + 1, hk => by
  rw [cpA_succ (by omega), List.length_append]
  have h1 := cpA_len h3 k (by omega)
  have h2 := cpyL_len (LS[k]'(by omega)) (cpS LS k) (LS[k]'(by omega)).length
  have h4 := h3 _ (List.getElem_mem (show k < LS.length by omega))
  omega
/-- The numbers of the states while a letter's bytes are followed. -/
theorem letTo_mid {l : List UInt8} {b j : Nat} (h : j + 1 < l.length) : letTo l b j = ((b + j : Nat) : Int) := by
 unfold letTo
 rw [if_neg (by omega)]
 omega
theorem letTo_last {l : List UInt8} {b j : Nat} (h : j + 1 = l.length) : letTo l b j = 1 := by unfold letTo; rw [if_pos h]
theorem frmL_succ {l : List UInt8} {b j : Nat} (h : j + 1 < l.length) : frmL b (j + 1) = letTo l b j := by
 rw [letTo_mid h]
 unfold frmL
 rw [if_neg (by omega), show j + 1 - 1 = j by omega]
 omega
end Go.Proofs.YthachfkcgdfdfaaGreatDoor
