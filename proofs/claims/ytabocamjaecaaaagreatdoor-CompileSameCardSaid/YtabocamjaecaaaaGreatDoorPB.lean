/- CP · CU · CV · CW · PB -/
import Derived.Test.YtabocamjaecaaaaGreatDoorT0
import Derived.Test.YtabocamjaecaaaaGreatDoorGH
import Derived.Test.YtabocamjaecaaaaGreatDoorGS
/- Plain words: the composition of two machines: pairs of states in the order in which they are found, and their arcs. No program in sight. -/
namespace Go.Proofs.YtabocamjaecaaaaGreatDoor
open Go Classical

/-- A step of a pair of states: what is read, what is written, where it leads. -/
structure PStep where
 inp : Int
 out : Int
 dst : Int × Int
/-- The steps of a pair, in order. -/
noncomputable def stepsL (m n : List Arc) (x : Int × Int) : List PStep :=
 ((m.filter (fun a => decide (a.frm = x.1))).flatMap (fun a => if a.out = 0 then [⟨a.inp, 0, (a.to, x.2)⟩] else
  (n.filter (fun b => decide (b.frm = x.2 ∧ b.inp = a.out))).map (fun b => ⟨a.inp, b.out, (a.to, b.to)⟩))) ++
 (n.filter (fun b => decide (b.frm = x.2 ∧ b.inp = 0))).map (fun b => ⟨0, b.out, (x.1, b.to)⟩)
/-- The three kinds of steps. -/
def StepOf (m n : List Arc) (x : Int × Int) (s : PStep) : Prop :=
 (∃ a ∈ m, a.frm = x.1 ∧ a.out = 0 ∧ s = ⟨a.inp, 0, (a.to, x.2)⟩) ∨
 (∃ a ∈ m, ∃ b ∈ n, a.frm = x.1 ∧ a.out ≠ 0 ∧ b.frm = x.2 ∧ b.inp = a.out ∧ s = ⟨a.inp, b.out, (a.to, b.to)⟩) ∨
 (∃ b ∈ n, b.frm = x.2 ∧ b.inp = 0 ∧ s = ⟨0, b.out, (x.1, b.to)⟩)
theorem mem_stepsL {m n : List Arc} {x : Int × Int} {s : PStep} : s ∈ stepsL m n x ↔ StepOf m n x s := by
 unfold stepsL StepOf
 rw [List.mem_append, List.mem_flatMap, List.mem_map]
 constructor
 ·rintro (⟨a, ha, hs⟩ | ⟨b, hb, rfl⟩)
  ·obtain ⟨ha1, ha2⟩ := List.mem_filter.1 ha
   have ha3 : a.frm = x.1 := by simpa using ha2
   by_cases h0 : a.out = 0
   ·rw [if_pos h0] at hs
    obtain rfl := List.mem_singleton.1 hs
    exact .inl ⟨a, ha1, ha3, h0, rfl⟩
   ·rw [if_neg h0] at hs
    obtain ⟨b, hb, rfl⟩ := List.mem_map.1 hs
    obtain ⟨hb1, hb2⟩ := List.mem_filter.1 hb
    have hb3 : b.frm = x.2 ∧ b.inp = a.out := by simpa using hb2
    exact .inr (.inl ⟨a, ha1, b, hb1, ha3, h0, hb3.1, hb3.2, rfl⟩)
  ·obtain ⟨hb1, hb2⟩ := List.mem_filter.1 hb
   have hb3 : b.frm = x.2 ∧ b.inp = 0 := by simpa using hb2
   exact .inr (.inr ⟨b, hb1, hb3.1, hb3.2, rfl⟩)
 ·rintro (⟨a, ha, h1, h0, rfl⟩ | ⟨a, ha, b, hb, h1, h0, h2, h3, rfl⟩ | ⟨b, hb, h1, h2, rfl⟩)
  ·exact .inl ⟨a, List.mem_filter.2 ⟨ha, by simpa using h1⟩, by rw [if_pos h0]; exact List.mem_singleton.2 rfl⟩
  ·exact .inl ⟨a, List.mem_filter.2 ⟨ha, by simpa using h1⟩, by rw [if_neg h0]; exact List.mem_map.2 ⟨b, List.mem_filter.2 ⟨hb, by simpa using ⟨h2, h3⟩⟩, rfl⟩⟩
  ·exact .inr ⟨b, List.mem_filter.2 ⟨hb, by simpa using ⟨h1, h2⟩⟩, rfl⟩

/-- The pairs that were found, and the arcs that were made. -/
structure PSt where
 ord : List (Int × Int)
 arcs : List Arc
noncomputable def addO (l : List (Int × Int)) (x : Int × Int) : List (Int × Int) := if x ∈ l then l else l ++ [x]
noncomputable def stepO (i : Nat) (st : PSt) (s : PStep) : PSt := ⟨addO st.ord s.dst, st.arcs ++ [⟨i, s.inp, s.out, ((addO st.ord s.dst).idxOf s.dst : Nat)⟩]⟩
noncomputable def rowO (m n : List Arc) (i : Nat) (st : PSt) : PSt := match st.ord[i]? with
 | some x => (stepsL m n x).foldl (stepO i) st
 | none => st
noncomputable def runO (m n : List Arc) : Nat → Nat → PSt → PSt
 | 0, _, st => st
 | f + 1, i, st => if i < st.ord.length then runO m n f (i + 1) (rowO m n i st) else st
/-- All pairs, and their arcs; 4000 pairs are followed at most. -/
noncomputable def composeO (M N : Mach) : PSt := runO M.arcs N.arcs 4000 0 ⟨[(M.start, N.start)], []⟩

/-- One list begins another one. -/
theorem addO_prefix (l : List (Int × Int)) (x : Int × Int) : l <+: addO l x := by
 unfold addO
 split
 ·exact List.prefix_refl _
 ·exact List.prefix_append _ _
theorem mem_addO {l : List (Int × Int)} {x : Int × Int} : x ∈ addO l x := by
 unfold addO
 split
 ·assumption
 ·simp
theorem nodup_addO {l : List (Int × Int)} (h : l.Nodup) (x : Int × Int) : (addO l x).Nodup := by
 unfold addO
 split
 ·exact h
 ·rename_i hx
  exact List.nodup_append.2 ⟨h, by simp, fun a ha b hb e => by
   obtain rfl : b = x := by simpa using hb
   exact hx (e ▸ ha)⟩
theorem idx_get {l : List (Int × Int)} {x : Int × Int} (h : x ∈ l) : l[l.idxOf x]? = some x := by
 have := List.idxOf_lt_length_of_mem h
 rw [List.getElem?_eq_getElem this]
 simp
theorem get_prefix {l l' : List (Int × Int)} (h : l <+: l') {i : Nat} {x : Int × Int} (hi : l[i]? = some x) : l'[i]? = some x := by
 obtain ⟨t, rfl⟩ := h
 rw [List.getElem?_append_left (List.getElem?_eq_some_iff.1 hi).1]
 exact hi

/-- What is known when the pairs below i were followed, and of the next one the steps in pre. -/
structure CmpInv (M N : Mach) (i : Nat) (pre : List PStep) (st : PSt) : Prop where
 nodup : st.ord.Nodup
 start : st.ord[0]? = some (M.start, N.start)
 arcs : ∀ a, a ∈ st.arcs ↔ ∃ (k : Nat) (x : Int × Int) (s : PStep) (j : Nat), st.ord[k]? = some x ∧ ((k < i ∧ StepOf M.arcs N.arcs x s) ∨ (k = i ∧ s ∈ pre)) ∧ st.ord[j]? = some s.dst ∧ a = ⟨k, s.inp, s.out, j⟩
 closed : ∀ (k : Nat) (x : Int × Int) (s : PStep), st.ord[k]? = some x → ((k < i ∧ StepOf M.arcs N.arcs x s) ∨ (k = i ∧ s ∈ pre)) → s.dst ∈ st.ord
theorem CmpInv.first (M N : Mach) : CmpInv M N 0 [] ⟨[(M.start, N.start)], []⟩ :=
 ⟨by simp, rfl, fun a => by simp, fun k x s _ h => by rcases h with ⟨h, _⟩ | ⟨_, h⟩; exact absurd h (Nat.not_lt_zero _); simp at h⟩
theorem nodup_get {l : List (Int × Int)} (h : l.Nodup) {i j : Nat} {x : Int × Int} (hi : l[i]? = some x) (hj : l[j]? = some x) : i = j := by
 obtain ⟨h1, e1⟩ := List.getElem?_eq_some_iff.1 hi
 obtain ⟨h2, e2⟩ := List.getElem?_eq_some_iff.1 hj
 rcases Nat.lt_trichotomy i j with h3 | h3 | h3
 ·exact absurd (e1.trans e2.symm) (List.pairwise_iff_getElem.1 h i j h1 h2 h3)
 ·exact h3
 ·exact absurd (e2.trans e1.symm) (List.pairwise_iff_getElem.1 h j i h2 h1 h3)
theorem CmpInv.step {M N : Mach} {i : Nat} {pre : List PStep} {st : PSt} (h : CmpInv M N i pre st) {x : Int × Int} (hx : st.ord[i]? = some x) (s : PStep) : CmpInv M N i (pre ++ [s]) (stepO i st s) := by
 have hp := addO_prefix st.ord s.dst
 have hn := nodup_addO h.nodup s.dst
 have hs : (addO st.ord s.dst)[(addO st.ord s.dst).idxOf s.dst]? = some s.dst := idx_get mem_addO
 -- what was among the first pairs stays there
 have back : ∀ (k : Nat) (y : Int × Int), k ≤ i → (addO st.ord s.dst)[k]? = some y → st.ord[k]? = some y := fun k y hk hy => by
  have hi := (List.getElem?_eq_some_iff.1 hx).1
  have h1 : st.ord[k]? = some (st.ord[k]'(by omega)) := List.getElem?_eq_getElem (by omega)
  rw [get_prefix hp h1] at hy
  rw [h1, hy]
 refine ⟨hn, get_prefix hp h.start, fun a => ?_, fun k y t hk ht => ?_⟩
 ·show a ∈ st.arcs ++ [_] ↔ _
  rw [List.mem_append, List.mem_singleton]
  constructor
  ·rintro (ha | rfl)
   ·obtain ⟨k, y, t, j, h1, h2, h3, h4⟩ := (h.arcs a).1 ha
    refine ⟨k, y, t, j, get_prefix hp h1, ?_, get_prefix hp h3, h4⟩
    rcases h2 with h2 | ⟨h2, h5⟩
    ·exact .inl h2
    ·exact .inr ⟨h2, List.mem_append.2 (.inl h5)⟩
   ·exact ⟨i, x, s, _, get_prefix hp hx, .inr ⟨rfl, by simp⟩, hs, rfl⟩
  ·rintro ⟨k, y, t, j, h1, h2, h3, rfl⟩
   have hk : k ≤ i := by rcases h2 with ⟨h2, _⟩ | ⟨h2, _⟩ <;> omega
   have h1' := back k y hk h1
   have old : ((k < i ∧ StepOf M.arcs N.arcs y t) ∨ (k = i ∧ t ∈ pre)) → (⟨k, t.inp, t.out, j⟩ : Arc) ∈ st.arcs := fun h5 => by
    have hm := h.closed k y t h1' h5
    have hj := idx_get hm
    have e := nodup_get hn h3 (get_prefix hp hj)
    rw [e]
    exact (h.arcs _).2 ⟨k, y, t, _, h1', h5, hj, rfl⟩
   rcases h2 with h2 | ⟨h2, h5⟩
   ·exact .inl (old (.inl h2))
   ·rcases List.mem_append.1 h5 with h5 | h5
    ·exact .inl (old (.inr ⟨h2, h5⟩))
    ·obtain rfl : t = s := by simpa using h5
     right
     rw [h2, nodup_get hn h3 hs]
 ·have hki : k ≤ i := by rcases ht with ⟨h2, _⟩ | ⟨h2, _⟩ <;> omega
  have hk' := back k y hki hk
  rcases ht with h2 | ⟨h2, h5⟩
  ·exact hp.subset (h.closed k y t hk' (.inl h2))
  ·rcases List.mem_append.1 h5 with h5 | h5
   ·exact hp.subset (h.closed k y t hk' (.inr ⟨h2, h5⟩))
   ·obtain rfl : t = s := by simpa using h5
    exact mem_addO
theorem stepO_get {st : PSt} {i : Nat} {x : Int × Int} (hx : st.ord[i]? = some x) (j : Nat) (s : PStep) : (stepO j st s).ord[i]? = some x := get_prefix (addO_prefix _ _) hx
theorem CmpInv.steps {M N : Mach} {i : Nat} {x : Int × Int} : ∀ (l pre : List PStep) (st : PSt), CmpInv M N i pre st → st.ord[i]? = some x → CmpInv M N i (pre ++ l) (l.foldl (stepO i) st) ∧ (l.foldl (stepO i) st).ord[i]? = some x
 | [], pre, st, h, hx => by simpa using ⟨h, hx⟩
 | s :: l, pre, st, h, hx => by
  have := CmpInv.steps l (pre ++ [s]) (stepO i st s) (h.step hx s) (stepO_get hx i s)
  simpa [List.append_assoc] using this
theorem CmpInv.row {M N : Mach} {i : Nat} {st : PSt} (h : CmpInv M N i [] st) (hi : i < st.ord.length) : CmpInv M N (i + 1) [] (rowO M.arcs N.arcs i st) := by
 have hx : st.ord[i]? = some st.ord[i] := List.getElem?_eq_getElem hi
 obtain ⟨h1, h2⟩ := CmpInv.steps (stepsL M.arcs N.arcs st.ord[i]) [] st h hx
 unfold rowO
 rw [hx]
 rw [List.nil_append] at h1
 simp only
 have key : ∀ (k : Nat) (y : Int × Int) (s : PStep), ((stepsL M.arcs N.arcs st.ord[i]).foldl (stepO i) st).ord[k]? = some y → (((k < i ∧ StepOf M.arcs N.arcs y s) ∨ (k = i ∧ s ∈ stepsL M.arcs N.arcs st.ord[i])) ↔ ((k < i + 1 ∧ StepOf M.arcs N.arcs y s) ∨ (k = i + 1 ∧ s ∈ ([] : List PStep)))) := fun k y s hk => by
  constructor
  ·rintro (⟨h3, h4⟩ | ⟨h3, h4⟩)
   ·exact .inl ⟨by omega, h4⟩
   ·subst h3
    rw [h2] at hk
    cases hk
    exact .inl ⟨by omega, mem_stepsL.1 h4⟩
  ·rintro (⟨h3, h4⟩ | ⟨_, h4⟩)
   ·rcases Nat.lt_succ_iff_lt_or_eq.1 h3 with h5 | h5
    ·exact .inl ⟨h5, h4⟩
    ·subst h5
     rw [h2] at hk
     cases hk
     exact .inr ⟨rfl, mem_stepsL.2 h4⟩
   ·simp at h4
 refine ⟨h1.nodup, h1.start, fun a => ?_, fun k y s hk hs => h1.closed k y s hk ((key k y s hk).2 hs)⟩
 rw [h1.arcs a]
 constructor
 ·rintro ⟨k, y, s, j, q1, q2, q3, q4⟩; exact ⟨k, y, s, j, q1, (key k y s q1).1 q2, q3, q4⟩
 ·rintro ⟨k, y, s, j, q1, q2, q3, q4⟩; exact ⟨k, y, s, j, q1, (key k y s q1).2 q2, q3, q4⟩
theorem CmpInv.run {M N : Mach} : ∀ (f i : Nat) (st : PSt), CmpInv M N i [] st → ∃ k, i ≤ k ∧ k ≤ i + f ∧ CmpInv M N k [] (runO M.arcs N.arcs f i st) ∧ ((runO M.arcs N.arcs f i st).ord.length ≤ k ∨ k = i + f)
 | 0, i, st, h => ⟨i, Nat.le_refl _, Nat.le_refl _, h, .inr rfl⟩
 | f + 1, i, st, h => by
  unfold runO
  split
  ·rename_i hi
   obtain ⟨k, h1, h2, h3, h4⟩ := CmpInv.run f (i + 1) (rowO M.arcs N.arcs i st) (h.row hi)
   exact ⟨k, by omega, by omega, h3, by rcases h4 with h4 | h4; exact .inl h4; exact .inr (by omega)⟩
  ·rename_i hi
   exact ⟨i, Nat.le_refl _, by omega, h, .inl (by omega)⟩

/-- A composition that was followed to its end. -/
structure CompOf (M N : Mach) (ord : List (Int × Int)) (arcs : List Arc) : Prop where
 nodup : ord.Nodup
 start : ord[0]? = some (M.start, N.start)
 arcs : ∀ a, a ∈ arcs ↔ ∃ (k : Nat) (x : Int × Int) (s : PStep) (j : Nat), ord[k]? = some x ∧ StepOf M.arcs N.arcs x s ∧ ord[j]? = some s.dst ∧ a = ⟨k, s.inp, s.out, j⟩
 closed : ∀ (k : Nat) (x : Int × Int) (s : PStep), ord[k]? = some x → StepOf M.arcs N.arcs x s → s.dst ∈ ord
theorem comp_of {M N : Mach} (h : (composeO M N).ord.length ≤ 4000) : CompOf M N (composeO M N).ord (composeO M N).arcs := by
 obtain ⟨k, _, h2, h3, h4⟩ := CmpInv.run 4000 0 ⟨[(M.start, N.start)], []⟩ (CmpInv.first M N)
 have hk : (composeO M N).ord.length ≤ k := by
  rcases h4 with h4 | h4
  ·exact h4
  ·rw [h4]; simpa using h
 have lt : ∀ (i : Nat) (x : Int × Int), (composeO M N).ord[i]? = some x → i < k := fun i x hi => Nat.lt_of_lt_of_le (List.getElem?_eq_some_iff.1 hi).1 hk
 refine ⟨h3.nodup, h3.start, fun a => ?_, fun i x s hi hs => h3.closed i x s hi (.inl ⟨lt i x hi, hs⟩)⟩
 rw [show (composeO M N).arcs = (runO M.arcs N.arcs 4000 0 ⟨[(M.start, N.start)], []⟩).arcs from rfl, h3.arcs a]
 constructor
 ·rintro ⟨i, x, s, j, q1, q2, q3, q4⟩
  rcases q2 with ⟨_, q2⟩ | ⟨_, q2⟩
  ·exact ⟨i, x, s, j, q1, q2, q3, q4⟩
  ·simp at q2
 ·rintro ⟨i, x, s, j, q1, q2, q3, q4⟩
  exact ⟨i, x, s, j, q1, .inl ⟨lt i x q1, q2⟩, q3, q4⟩

/-- The pair behind a way of the composition, and the ways of both machines. -/
theorem comp_ways {M N : Mach} {ord : List (Int × Int)} {arcs l : List Arc} (h : CompOf M N ord arcs) (hl : ∀ a, a ∈ l ↔ a ∈ arcs) {x y : List UInt8} {t : Int} (k : Walk l 0 x y t) :
  ∃ (j : Nat) (z : Int × Int) (u : List UInt8), t = j ∧ ord[j]? = some z ∧ Walk M.arcs M.start x u z.1 ∧ Walk N.arcs N.start u y z.2 := by
 induction k with
 | nil => exact ⟨0, _, [], rfl, h.start, .nil, .nil⟩
 | @snoc x y a _ ha ih =>
  obtain ⟨j, z, u, h1, h2, h3, h4⟩ := ih
  obtain ⟨i, z', s, j', q1, q2, q3, rfl⟩ := (h.arcs a).1 ((hl a).1 ha)
  have e : i = j := by simp at h1; omega
  subst e
  rw [q1] at h2
  cases h2
  rcases q2 with ⟨b, hb, e1, e2, rfl⟩ | ⟨b, hb, c, hc, e1, e2, e3, e4, rfl⟩ | ⟨c, hc, e1, e2, rfl⟩
  ·refine ⟨j', _, u, rfl, q3, ?_, ?_⟩
   ·have := Walk.snoc (a := b) (by rw [e1]; exact h3) hb
    rw [e2, symb_zero, List.append_nil] at this
    exact this
   ·simpa [symb_zero] using h4
  ·refine ⟨j', _, u ++ symb b.out, rfl, q3, ?_, ?_⟩
   ·exact Walk.snoc (a := b) (by rw [e1]; exact h3) hb
   ·have := Walk.snoc (a := c) (by rw [e3]; exact h4) hc
    rw [e4] at this
    exact this
  ·refine ⟨j', _, u, rfl, q3, ?_, ?_⟩
   ·simpa [symb_zero] using h3
   ·have := Walk.snoc (a := c) (by rw [e1]; exact h4) hc
    rw [e2, symb_zero, List.append_nil] at this
    exact this
theorem comp_arc {M N : Mach} {ord : List (Int × Int)} {arcs l : List Arc} (h : CompOf M N ord arcs) (hl : ∀ a, a ∈ l ↔ a ∈ arcs) {x y : List UInt8} {j : Nat} {z : Int × Int} (k : Walk l 0 x y (j : Int)) (hz : ord[j]? = some z) {s : PStep} (hs : StepOf M.arcs N.arcs z s) :
  ∃ j' : Nat, ord[j']? = some s.dst ∧ Walk l 0 (x ++ symb s.inp) (y ++ symb s.out) (j' : Int) := by
 have hm := h.closed j z s hz hs
 refine ⟨_, idx_get hm, ?_⟩
 exact k.more ((hl _).2 ((h.arcs _).2 ⟨j, z, s, _, hz, hs, idx_get hm, rfl⟩)) rfl rfl
theorem symb_one {c : Int} (h0 : c ≠ 0) : symb c = [c.toNat.toUInt8] := by unfold symb; rw [if_neg h0]
theorem symb_inj {c d : Int} (hc : SymOk c) (hd : SymOk d) (c0 : c ≠ 0) (d0 : d ≠ 0) (e : symb c = symb d) : c = d := by
 rw [symb_one c0, symb_one d0] at e
 have e1 : c.toNat.toUInt8 = d.toNat.toUInt8 := by simpa using e
 have h1 := (sym_byte hc c0).2
 have h2 := (sym_byte hd d0).2
 rw [e1] at h1
 omega
/-- Ways of both machines that agree on the text between them make a way of the composition. -/
theorem ways_comp {M N : Mach} (hM : ValidM M) (hN : ValidM N) {ord : List (Int × Int)} {arcs l : List Arc} (h : CompOf M N ord arcs) (hl : ∀ a, a ∈ l ↔ a ∈ arcs) {x u : List UInt8} {p : Int} (k : Walk M.arcs M.start x u p) :
  ∀ (v y : List UInt8) (q : Int), Walk N.arcs N.start v y q → v = u → ∃ j : Nat, ord[j]? = some (p, q) ∧ Walk l 0 x y (j : Int) := by
 induction k with
 | nil =>
  intro v y q k2
  induction k2 with
  | nil => intro _; exact ⟨0, h.start, .nil⟩
  | @snoc v y b _ hb ih =>
   intro e
   obtain ⟨e1, e2⟩ := List.append_eq_nil_iff.1 e
   have hb0 : b.inp = 0 := by
    rcases Classical.em (b.inp = 0) with h0 | h0
    ·exact h0
    ·rw [symb_one h0] at e2; simp at e2
   obtain ⟨j, hj, hw⟩ := ih e1
   obtain ⟨j', hj', hw'⟩ := comp_arc h hl hw hj (s := ⟨0, b.out, (M.start, b.to)⟩) (.inr (.inr ⟨b, hb, rfl, hb0, rfl⟩))
   exact ⟨j', hj', by simpa [symb_zero] using hw'⟩
 | @snoc x u a _ ha ih =>
  by_cases h0 : a.out = 0
  ·intro v y q k2 e
   rw [h0, symb_zero, List.append_nil] at e
   obtain ⟨j, hj, hw⟩ := ih _ _ _ k2 e
   obtain ⟨j', hj', hw'⟩ := comp_arc h hl hw hj (s := ⟨a.inp, 0, (a.to, q)⟩) (.inl ⟨a, ha, rfl, h0, rfl⟩)
   exact ⟨j', hj', by simpa [symb_zero] using hw'⟩
  ·intro v y q k2
   have hs := symb_one h0
   induction k2 with
   | nil =>
    intro e
    rw [hs] at e
    simp at e
   | @snoc v y b k3 hb ih2 =>
    intro e
    by_cases hb0 : b.inp = 0
    ·rw [hb0, symb_zero, List.append_nil] at e
     obtain ⟨j, hj, hw⟩ := ih2 e
     obtain ⟨j', hj', hw'⟩ := comp_arc h hl hw hj (s := ⟨0, b.out, (a.to, b.to)⟩) (.inr (.inr ⟨b, hb, rfl, hb0, rfl⟩))
     exact ⟨j', hj', by simpa [symb_zero] using hw'⟩
    ·have hs2 := symb_one hb0
     have e3 : v = u ∧ symb b.inp = symb a.out := by
      rw [hs, hs2] at e ⊢
      have := List.append_inj' e rfl
      exact this
     obtain ⟨j, hj, hw⟩ := ih _ _ _ k3 e3.1
     obtain ⟨j', hj', hw'⟩ := comp_arc h hl hw hj (s := ⟨a.inp, b.out, (a.to, b.to)⟩) (.inr (.inl ⟨a, ha, b, hb, rfl, h0, rfl, symb_inj (hN.arcs b hb).2.2.1 (hM.arcs a ha).2.2.2 hb0 h0 e3.2, rfl⟩))
     exact ⟨j', hj', hw'⟩

/-- What composing makes before it is trimmed. -/
structure CompM (M N C : Mach) (ord : List (Int × Int)) (arcs : List Arc) : Prop where
 comp : CompOf M N ord arcs
 states : C.states = (ord.length : Nat)
 start : C.start = 0
 final : ∀ s : Int, s ∈ C.final ↔ ∃ (j : Nat) (z : Int × Int), s = j ∧ ord[j]? = some z ∧ z.1 ∈ M.final ∧ z.2 ∈ N.final
 inc : C.final.Pairwise (· < ·)
 arcsInc : Increasing C.arcs
 mem : ∀ a, a ∈ C.arcs ↔ a ∈ arcs
section
variable {M N C : Mach} {ord : List (Int × Int)} {arcs : List Arc}
theorem StepOf.syms (hM : ValidM M) (hN : ValidM N) {z : Int × Int} {s : PStep} (h : StepOf M.arcs N.arcs z s) : SymOk s.inp ∧ SymOk s.out := by
 rcases h with ⟨a, ha, _, _, rfl⟩ | ⟨a, ha, b, hb, _, _, _, _, rfl⟩ | ⟨b, hb, _, _, rfl⟩
 ·exact ⟨(hM.arcs a ha).2.2.1, .inl rfl⟩
 ·exact ⟨(hM.arcs a ha).2.2.1, (hN.arcs b hb).2.2.2⟩
 ·exact ⟨.inl rfl, (hN.arcs b hb).2.2.2⟩
theorem CompM.syms (h : CompM M N C ord arcs) (hM : ValidM M) (hN : ValidM N) : ∀ a ∈ C.arcs, SymOk a.inp ∧ SymOk a.out := by
 intro a ha
 obtain ⟨_, z, s, _, _, h2, _, rfl⟩ := (h.comp.arcs a).1 ((h.mem a).1 ha)
 exact h2.syms hM hN
/-- The results of a composition are the results, for the second machine, of those for the first one. -/
theorem CompM.result (h : CompM M N C ord arcs) (hM : ValidM M) (hN : ValidM N) {x : List UInt8} {t : ByteArray} : Result C x t ↔ ∃ u : ByteArray, Result M x u ∧ Result N (bl u) t := by
 rw [result_iff (fun a ha => (h.syms hM hN a ha).1)]
 constructor
 ·rintro ⟨s, hs, hw⟩
  obtain ⟨j, z, rfl, h1, h2, h3⟩ := (h.final s).1 hs
  rw [h.start] at hw
  obtain ⟨j', z', u, e, q1, q2, q3⟩ := comp_ways h.comp h.mem hw
  have e' : j = j' := by omega
  subst e'
  rw [h1] at q1
  cases q1
  refine ⟨⟨u.toArray⟩, (result_iff (fun a ha => (hM.arcs a ha).2.2.1)).2 ⟨z.1, h2, ?_⟩, (result_iff (fun a ha => (hN.arcs a ha).2.2.1)).2 ⟨z.2, h3, ?_⟩⟩
  ·rw [show bl (⟨u.toArray⟩ : ByteArray) = u from by simp [bl]]; exact q2
  ·rw [show bl (⟨u.toArray⟩ : ByteArray) = u from by simp [bl]]; exact q3
 ·rintro ⟨u, h1, h2⟩
  obtain ⟨p, hp, w1⟩ := (result_iff (fun a ha => (hM.arcs a ha).2.2.1)).1 h1
  obtain ⟨q, hq, w2⟩ := (result_iff (fun a ha => (hN.arcs a ha).2.2.1)).1 h2
  obtain ⟨j, hj, hw⟩ := ways_comp hM hN h.comp h.mem w1 _ _ _ w2 rfl
  exact ⟨j, (h.final _).2 ⟨j, _, rfl, hj, hp, hq⟩, by rw [h.start]; exact hw⟩
theorem CompM.valid (h : CompM M N C ord arcs) (hM : ValidM M) (hN : ValidM N) (hs : ord.length ≤ 4000) (ha : C.arcs.length ≤ 20000) : ValidM C := by
 have h0 : 0 < ord.length := (List.getElem?_eq_some_iff.1 h.comp.start).1
 have hst := h.states
 refine ⟨by omega, by omega, by rw [h.start, hst]; exact ⟨by omega, by omega⟩, ha, fun s hs' => ?_, h.inc, fun a ha' => ?_, h.arcsInc⟩
 ·obtain ⟨j, z, rfl, h1, _⟩ := (h.final s).1 hs'
  have := (List.getElem?_eq_some_iff.1 h1).1
  rw [hst]
  exact ⟨by omega, by omega⟩
 ·obtain ⟨h3, h4⟩ := h.syms hM hN a ha'
  obtain ⟨k, z, s, j, q1, _, q3, rfl⟩ := (h.comp.arcs a).1 ((h.mem a).1 ha')
  have h1 := (List.getElem?_eq_some_iff.1 q1).1
  have h2 := (List.getElem?_eq_some_iff.1 q3).1
  rw [hst]
  exact ⟨⟨by show (0 : Int) ≤ (k : Int); omega, by show (k : Int) < (ord.length : Nat); omega⟩, ⟨by show (0 : Int) ≤ (j : Int); omega, by show (j : Int) < (ord.length : Nat); omega⟩, h3, h4⟩
/-- A circle of a composition is one of one of both machines. -/
theorem CompM.circle (h : CompM M N C ord arcs) (hc : Circle C) : Circle M ∨ Circle N := by
 have one : ∀ a b, Ed C a b → ∃ (i j : Nat) (x y : Int × Int), a = i ∧ b = j ∧ ord[i]? = some x ∧ ord[j]? = some y ∧ (Ed M x.1 y.1 ∨ (x.1 = y.1 ∧ Ed N x.2 y.2)) := fun a b hab => by
  obtain ⟨c, hc, rfl⟩ := hab
  obtain ⟨h1, h2, h3⟩ := mem_runA.1 hc
  obtain ⟨k, z, s, j, q1, q2, q3, rfl⟩ := (h.comp.arcs c).1 ((h.mem c).1 h1)
  refine ⟨k, j, z, s.dst, h2.symm, rfl, q1, q3, ?_⟩
  have h3' : s.inp = 0 := h3
  rcases q2 with ⟨a, ha, e1, _, rfl⟩ | ⟨a, ha, b, hb, e1, _, _, _, rfl⟩ | ⟨b, hb, e1, e2, rfl⟩
  ·exact .inl ⟨a, mem_runA.2 ⟨ha, e1, h3'⟩, rfl⟩
  ·exact .inl ⟨a, mem_runA.2 ⟨ha, e1, h3'⟩, rfl⟩
  ·exact .inr ⟨rfl, b, mem_runA.2 ⟨hb, e1, e2⟩, rfl⟩
 have way : ∀ a b, Way (Ed C) a b → ∃ (i j : Nat) (x y : Int × Int), a = i ∧ b = j ∧ ord[i]? = some x ∧ ord[j]? = some y ∧ (Way (Ed M) x.1 y.1 ∨ (x.1 = y.1 ∧ Way (Ed N) x.2 y.2)) := fun a b hab => by
  induction hab with
  | one h1 =>
   obtain ⟨i, j, x, y, e1, e2, q1, q2, q3⟩ := one _ _ h1
   exact ⟨i, j, x, y, e1, e2, q1, q2, by rcases q3 with q3 | ⟨q3, q4⟩; exact .inl (.one q3); exact .inr ⟨q3, .one q4⟩⟩
  | more _ h1 ih =>
   obtain ⟨i, j, x, y, e1, e2, q1, q2, q3⟩ := ih
   obtain ⟨i', j', x', y', e1', e2', q1', q2', q3'⟩ := one _ _ h1
   have e : j = i' := by omega
   subst e
   rw [q2] at q1'
   cases q1'
   refine ⟨i, j', x, y', e1, e2', q1, q2', ?_⟩
   rcases q3 with q3 | ⟨q3, q4⟩ <;> rcases q3' with q3' | ⟨q3', q4'⟩
   ·exact .inl (q3.more q3')
   ·exact .inl (q3' ▸ q3)
   ·exact .inl (.one (q3 ▸ q3'))
   ·exact .inr ⟨q3.trans q3', q4.more q4'⟩
 obtain ⟨s, hs⟩ := hc
 obtain ⟨i, j, x, y, e1, e2, q1, q2, q3⟩ := way s s hs
 have e : i = j := by omega
 subst e
 rw [q1] at q2
 cases q2
 rcases q3 with q3 | ⟨_, q3⟩
 ·exact .inl ⟨_, q3⟩
 ·exact .inr ⟨_, q3⟩
end

end Go.Proofs.YtabocamjaecaaaaGreatDoor

/- Plain words: the union of two machines. No program in sight. -/
namespace Go.Proofs.YtabocamjaecaaaaGreatDoor
open Go Classical

structure UnionM (M N U : Mach) : Prop where
 states : U.states = M.states + N.states + 1
 start : U.start = M.states + N.states
 final : ∀ s, s ∈ U.final ↔ s ∈ M.final ∨ (∃ f ∈ N.final, s = f + M.states) ∨ (s = U.start ∧ (M.start ∈ M.final ∨ N.start ∈ N.final))
 inc : U.final.Pairwise (· < ·)
 arcsInc : Increasing U.arcs
 mem : ∀ a, a ∈ U.arcs ↔ a ∈ M.arcs ∨ (∃ b ∈ N.arcs, a = ⟨b.frm + M.states, b.inp, b.out, b.to + M.states⟩) ∨ (∃ b ∈ M.arcs, b.frm = M.start ∧ a = ⟨U.start, b.inp, b.out, b.to⟩) ∨
  (∃ b ∈ N.arcs, b.frm = N.start ∧ a = ⟨U.start, b.inp, b.out, b.to + M.states⟩)
section
variable {M N U : Mach}
theorem UnionM.arcOk (h : UnionM M N U) (hM : ValidM M) (hN : ValidM N) : ∀ a ∈ U.arcs, StateOk U.states a.frm ∧ StateOk U.states a.to ∧ SymOk a.inp ∧ SymOk a.out := by
 intro a ha
 have h1 := h.states
 have h2 := h.start
 have m1 := hM.one
 have n1 := hN.one
 rcases (h.mem a).1 ha with ha | ⟨b, hb, rfl⟩ | ⟨b, hb, _, rfl⟩ | ⟨b, hb, _, rfl⟩
 ·obtain ⟨⟨q1, q2⟩, ⟨q3, q4⟩, q5, q6⟩ := hM.arcs a ha
  exact ⟨⟨q1, by omega⟩, ⟨q3, by omega⟩, q5, q6⟩
 ·obtain ⟨⟨q1, q2⟩, ⟨q3, q4⟩, q5, q6⟩ := hN.arcs b hb
  exact ⟨⟨by show 0 ≤ b.frm + M.states; omega, by show b.frm + M.states < U.states; omega⟩, ⟨by show 0 ≤ b.to + M.states; omega, by show b.to + M.states < U.states; omega⟩, q5, q6⟩
 ·obtain ⟨_, ⟨q3, q4⟩, q5, q6⟩ := hM.arcs b hb
  exact ⟨⟨by show 0 ≤ U.start; omega, by show U.start < U.states; omega⟩, ⟨q3, by show b.to < U.states; omega⟩, q5, q6⟩
 ·obtain ⟨_, ⟨q3, q4⟩, q5, q6⟩ := hN.arcs b hb
  exact ⟨⟨by show 0 ≤ U.start; omega, by show U.start < U.states; omega⟩, ⟨by show 0 ≤ b.to + M.states; omega, by show b.to + M.states < U.states; omega⟩, q5, q6⟩
theorem UnionM.valid (h : UnionM M N U) (hM : ValidM M) (hN : ValidM N) (hs : U.states ≤ 4000) (ha : U.arcs.length ≤ 20000) : ValidM U := by
 have h1 := h.states
 have h2 := h.start
 have m1 := hM.one
 have n1 := hN.one
 refine ⟨by omega, hs, ⟨by omega, by omega⟩, ha, fun s hs' => ?_, h.inc, h.arcOk hM hN, h.arcsInc⟩
 rcases (h.final s).1 hs' with q | ⟨f, q, rfl⟩ | ⟨rfl, _⟩
 ·have := hM.final s q; exact ⟨this.1, by have := this.2; omega⟩
 ·have := hN.final f q; exact ⟨by have := this.1; omega, by have := this.2; omega⟩
 ·exact ⟨by omega, by omega⟩
/-- A way from the start of the union. -/
theorem UnionM.walk (h : UnionM M N U) (hM : ValidM M) (hN : ValidM N) {x y : List UInt8} {s : Int} (k : Walk U.arcs U.start x y s) :
  (s = U.start ∧ x = [] ∧ y = []) ∨ (StateOk M.states s ∧ Walk M.arcs M.start x y s) ∨ ∃ q, StateOk N.states q ∧ s = q + M.states ∧ Walk N.arcs N.start x y q := by
 have h2 := h.start
 have m1 := hM.one
 have n1 := hN.one
 induction k with
 | nil => exact .inl ⟨rfl, rfl, rfl⟩
 | @snoc x y a _ ha ih =>
  rcases (h.mem a).1 ha with ha | ⟨b, hb, rfl⟩ | ⟨b, hb, hs, rfl⟩ | ⟨b, hb, hs, rfl⟩
  ·obtain ⟨q1, q2, _⟩ := hM.arcs a ha
   have := q1.2
   rcases ih with ⟨e, _⟩ | ⟨_, w⟩ | ⟨q, q3, e, _⟩
   ·exact absurd e (by omega)
   ·exact .inr (.inl ⟨q2, w.snoc ha⟩)
   ·exact absurd e (by have := q3.1; omega)
  ·obtain ⟨q1, q2, _⟩ := hN.arcs b hb
   have q3 := q1.1
   have q4 := q1.2
   simp only at ih
   rcases ih with ⟨e, _⟩ | ⟨q5, _⟩ | ⟨q, _, e, w⟩
   ·exact absurd e (by omega)
   ·exact absurd q5.2 (by omega)
   ·have e' : q = b.frm := by omega
    subst e'
    exact .inr (.inr ⟨b.to, q2, rfl, w.snoc hb⟩)
  ·obtain ⟨_, q2, _⟩ := hM.arcs b hb
   simp only at ih
   rcases ih with ⟨_, rfl, rfl⟩ | ⟨q5, _⟩ | ⟨q, q3, e, _⟩
   ·refine .inr (.inl ⟨q2, Walk.snoc (a := b) ?_ hb⟩)
    rw [hs]; exact .nil
   ·exact absurd q5.2 (by omega)
   ·exact absurd e (by have := q3.2; omega)
  ·obtain ⟨_, q2, _⟩ := hN.arcs b hb
   simp only at ih
   rcases ih with ⟨_, rfl, rfl⟩ | ⟨q5, _⟩ | ⟨q, q3, e, _⟩
   ·refine .inr (.inr ⟨b.to, q2, rfl, Walk.snoc (a := b) ?_ hb⟩)
    rw [hs]; exact .nil
   ·exact absurd q5.2 (by omega)
   ·exact absurd e (by have := q3.2; omega)
theorem UnionM.walkM (h : UnionM M N U) {x y : List UInt8} {s : Int} (k : Walk M.arcs M.start x y s) : (s = M.start ∧ x = [] ∧ y = []) ∨ Walk U.arcs U.start x y s := by
 induction k with
 | nil => exact .inl ⟨rfl, rfl, rfl⟩
 | @snoc x y a _ ha ih =>
  rcases ih with ⟨e, rfl, rfl⟩ | w
  ·exact .inr (Walk.more (u := a.to) .nil ((h.mem _).2 (.inr (.inr (.inl ⟨a, ha, e, rfl⟩)))) rfl rfl)
  ·exact .inr (w.snoc ((h.mem a).2 (.inl ha)))
theorem UnionM.walkN (h : UnionM M N U) {x y : List UInt8} {s : Int} (k : Walk N.arcs N.start x y s) : (s = N.start ∧ x = [] ∧ y = []) ∨ Walk U.arcs U.start x y (s + M.states) := by
 induction k with
 | nil => exact .inl ⟨rfl, rfl, rfl⟩
 | @snoc x y a _ ha ih =>
  rcases ih with ⟨e, rfl, rfl⟩ | w
  ·exact .inr (Walk.more (u := a.to + M.states) .nil ((h.mem _).2 (.inr (.inr (.inr ⟨a, ha, e, rfl⟩)))) rfl rfl)
  ·exact .inr (Walk.more (u := a.to + M.states) w ((h.mem _).2 (.inr (.inl ⟨a, ha, rfl⟩))) rfl rfl)
theorem UnionM.result (h : UnionM M N U) (hM : ValidM M) (hN : ValidM N) {x : List UInt8} {t : ByteArray} : Result U x t ↔ Result M x t ∨ Result N x t := by
 have h2 := h.start
 have m1 := hM.one
 have n1 := hN.one
 rw [result_iff (fun a ha => (h.arcOk hM hN a ha).2.2.1), result_iff (fun a ha => (hM.arcs a ha).2.2.1), result_iff (fun a ha => (hN.arcs a ha).2.2.1)]
 constructor
 ·rintro ⟨s, hs, hw⟩
  have hf := (h.final s).1 hs
  rcases h.walk hM hN hw with ⟨rfl, rfl, e⟩ | ⟨q1, w⟩ | ⟨q, q1, rfl, w⟩
  ·have hb : M.start ∈ M.final ∨ N.start ∈ N.final := by
    rcases hf with hf | ⟨f, hf, e1⟩ | ⟨_, hf⟩
    ·have := (hM.final _ hf).2; omega
    ·have := (hN.final f hf).2; omega
    ·exact hf
   rw [e]
   rcases hb with hb | hb
   ·exact .inl ⟨_, hb, .nil⟩
   ·exact .inr ⟨_, hb, .nil⟩
  ·have := q1.2
   rcases hf with hf | ⟨f, hf, e1⟩ | ⟨e1, _⟩
   ·exact .inl ⟨s, hf, w⟩
   ·have := (hN.final f hf).1; omega
   ·omega
  ·have q2 := q1.1
   have q3 := q1.2
   rcases hf with hf | ⟨f, hf, e1⟩ | ⟨e1, _⟩
   ·have := (hM.final _ hf).2; omega
   ·have e2 : q = f := by omega
    exact .inr ⟨q, e2 ▸ hf, w⟩
   ·omega
 ·rintro (⟨s, hs, hw⟩ | ⟨s, hs, hw⟩)
  ·rcases h.walkM hw with ⟨rfl, rfl, e⟩ | w
   ·exact ⟨U.start, (h.final _).2 (.inr (.inr ⟨rfl, .inl hs⟩)), by rw [e]; exact .nil⟩
   ·exact ⟨s, (h.final s).2 (.inl hs), w⟩
  ·rcases h.walkN hw with ⟨rfl, rfl, e⟩ | w
   ·exact ⟨U.start, (h.final _).2 (.inr (.inr ⟨rfl, .inr hs⟩)), by rw [e]; exact .nil⟩
   ·exact ⟨s + M.states, (h.final _).2 (.inr (.inl ⟨s, hs, rfl⟩)), w⟩
theorem UnionM.circle (h : UnionM M N U) (hM : ValidM M) (hN : ValidM N) (hc : Circle U) : Circle M ∨ Circle N := by
 have h2 := h.start
 have m1 := hM.one
 have n1 := hN.one
 -- behind an edge no state is the union's start
 have one : ∀ a b, Ed U a b → (a = U.start ∧ b ≠ U.start) ∨ (a < M.states ∧ b < M.states ∧ Ed M a b) ∨ (M.states ≤ a ∧ a ≠ U.start ∧ M.states ≤ b ∧ b ≠ U.start ∧ Ed N (a - M.states) (b - M.states)) := fun a b hab => by
  obtain ⟨c, hc, rfl⟩ := hab
  obtain ⟨h1, rfl, h3⟩ := mem_runA.1 hc
  rcases (h.mem c).1 h1 with hc | ⟨d, hd, rfl⟩ | ⟨d, hd, hs, rfl⟩ | ⟨d, hd, hs, rfl⟩
  ·obtain ⟨q1, q2, _⟩ := hM.arcs c hc
   exact .inr (.inl ⟨q1.2, q2.2, c, mem_runA.2 ⟨hc, rfl, h3⟩, rfl⟩)
  ·obtain ⟨q1, q2, _⟩ := hN.arcs d hd
   have r1 := q1.1
   have r2 := q1.2
   have r3 := q2.1
   have r4 := q2.2
   refine .inr (.inr ⟨by show M.states ≤ d.frm + M.states; omega, by show d.frm + M.states ≠ U.start; omega, by show M.states ≤ d.to + M.states; omega, by show d.to + M.states ≠ U.start; omega, d, mem_runA.2 ⟨hd, by show d.frm = d.frm + M.states - M.states; omega, h3⟩, by show d.to = d.to + M.states - M.states; omega⟩)
  ·obtain ⟨_, q2, _⟩ := hM.arcs d hd
   have := q2.2
   exact .inl ⟨rfl, by show d.to ≠ U.start; omega⟩
  ·obtain ⟨_, q2, _⟩ := hN.arcs d hd
   have := q2.2
   exact .inl ⟨rfl, by show d.to + M.states ≠ U.start; omega⟩
 have way : ∀ a b, Way (Ed U) a b → (a = U.start ∧ b ≠ U.start) ∨ (a < M.states ∧ b < M.states ∧ Way (Ed M) a b) ∨ (M.states ≤ a ∧ a ≠ U.start ∧ M.states ≤ b ∧ b ≠ U.start ∧ Way (Ed N) (a - M.states) (b - M.states)) := fun a b hab => by
  induction hab with
  | one h1 =>
   rcases one _ _ h1 with q | ⟨q1, q2, q3⟩ | ⟨q1, q2, q3, q4, q5⟩
   ·exact .inl q
   ·exact .inr (.inl ⟨q1, q2, .one q3⟩)
   ·exact .inr (.inr ⟨q1, q2, q3, q4, .one q5⟩)
  | more _ h1 ih =>
   rcases ih with ⟨q1, q2⟩ | ⟨q1, q2, q3⟩ | ⟨q1, q2, q3, q4, q5⟩ <;> rcases one _ _ h1 with ⟨r1, r2⟩ | ⟨r1, r2, r3⟩ | ⟨r1, r2, r3, r4, r5⟩
   ·exact .inl ⟨q1, r2⟩
   ·exact .inl ⟨q1, by omega⟩
   ·exact .inl ⟨q1, r4⟩
   ·omega
   ·exact .inr (.inl ⟨q1, r2, q3.more r3⟩)
   ·omega
   ·exact absurd r1 q4
   ·omega
   ·exact .inr (.inr ⟨q1, q2, r3, r4, q5.more r5⟩)
 obtain ⟨s, hs⟩ := hc
 rcases way s s hs with ⟨q1, q2⟩ | ⟨_, _, q⟩ | ⟨_, _, _, _, q⟩
 ·exact absurd q1 q2
 ·exact .inl ⟨s, q⟩
 ·exact .inr ⟨_, q⟩
end
end Go.Proofs.YtabocamjaecaaaaGreatDoor

/- Plain words: the laws on compositions, unions and inverses, as the runs of machines answer. No program in sight. -/
namespace Go.Proofs.YtabocamjaecaaaaGreatDoor
open Go Classical

/-- What Compose returns of valid machines where no limit is exceeded. -/
def Composed (M N C : Mach) : Prop := ∃ C0 ord arcs, CompM M N C0 ord arcs ∧ ValidM C0 ∧ C = trimM C0
section
variable {K M N C : Mach}
theorem Composed.valid (h : Composed M N C) : ValidM C := by
 obtain ⟨C0, _, _, _, hv, rfl⟩ := h
 exact trim_valid hv
theorem Composed.result (h : Composed M N C) (hM : ValidM M) (hN : ValidM N) {x : List UInt8} {t : ByteArray} : Result C x t ↔ ∃ u : ByteArray, Result M x u ∧ Result N (bl u) t := by
 obtain ⟨C0, _, _, hc, hv, rfl⟩ := h
 exact (trim_result hv).trans (hc.result hM hN)
theorem Composed.circle (h : Composed M N C) (hc : Circle C) : Circle M ∨ Circle N := by
 obtain ⟨C0, _, _, h0, hv, rfl⟩ := h
 exact h0.circle (trim_circle hv hc)
end

theorem SortedB.nodup {ts : List ByteArray} (h : SortedB ts) : ts.Nodup := by
 have := h.2
 unfold List.Nodup at this ⊢
 rw [List.pairwise_map] at this
 exact this.imp (fun hne e => hne (by rw [e]))
end Go.Proofs.YtabocamjaecaaaaGreatDoor

/- Plain words: how many pairs and arcs a composition of small machines has. No program in sight. -/
namespace Go.Proofs.YtabocamjaecaaaaGreatDoor
open Go Classical

def PairOk (M N : Mach) (x : Int × Int) : Prop := StateOk M.states x.1 ∧ StateOk N.states x.2
theorem StepOf.pair {M N : Mach} (hM : ValidM M) (hN : ValidM N) {x : Int × Int} (hx : PairOk M N x) {s : PStep} (h : StepOf M.arcs N.arcs x s) : PairOk M N s.dst := by
 rcases h with ⟨a, ha, _, _, rfl⟩ | ⟨a, ha, b, hb, _, _, _, _, rfl⟩ | ⟨b, hb, _, _, rfl⟩
 ·exact ⟨(hM.arcs a ha).2.1, hx.2⟩
 ·exact ⟨(hM.arcs a ha).2.1, (hN.arcs b hb).2.1⟩
 ·exact ⟨hx.1, (hN.arcs b hb).2.1⟩
theorem flatMap_len {α β : Type} (f : α → List β) (k : Nat) : ∀ l : List α, (∀ a ∈ l, (f a).length ≤ k) → (l.flatMap f).length ≤ l.length * k
 | [], _ => by simp
 | a :: l, h => by
  have h1 := h a (List.mem_cons_self ..)
  have h2 := flatMap_len f k l (fun b hb => h b (List.mem_cons_of_mem _ hb))
  rw [List.flatMap_cons, List.length_append, List.length_cons, Nat.add_mul]
  omega
theorem steps_len (m n : List Arc) (x : Int × Int) : (stepsL m n x).length ≤ m.length * (n.length + 1) + n.length := by
 unfold stepsL
 rw [List.length_append, List.length_map]
 have h1 := List.length_filter_le (fun b => decide (b.frm = x.2 ∧ b.inp = 0)) n
 have h2 := flatMap_len (fun a : Arc => if a.out = 0 then [(⟨a.inp, 0, (a.to, x.2)⟩ : PStep)] else (n.filter (fun b => decide (b.frm = x.2 ∧ b.inp = a.out))).map (fun b => ⟨a.inp, b.out, (a.to, b.to)⟩)) (n.length + 1) (m.filter (fun a => decide (a.frm = x.1))) (fun a _ => by
  split
  ·simp
  ·rw [List.length_map]
   exact Nat.le_trans (List.length_filter_le _ _) (Nat.le_succ _))
 have h3 := List.length_filter_le (fun a => decide (a.frm = x.1)) m
 have h4 := Nat.mul_le_mul_right (n.length + 1) h3
 omega
theorem steps_small {M N : Mach} (i : Nat) : ∀ (l : List PStep) (st : PSt), (∀ s ∈ l, PairOk M N s.dst) → (∀ x ∈ st.ord, PairOk M N x) →
  (∀ x ∈ (l.foldl (stepO i) st).ord, PairOk M N x) ∧ (l.foldl (stepO i) st).arcs.length = st.arcs.length + l.length ∧ st.ord.length ≤ (l.foldl (stepO i) st).ord.length
 | [], st, _, h => ⟨h, rfl, Nat.le_refl _⟩
 | s :: l, st, hl, h => by
  have h1 : ∀ x ∈ (stepO i st s).ord, PairOk M N x := fun x hx => by
   have hx' : x ∈ addO st.ord s.dst := hx
   unfold addO at hx'
   split at hx'
   ·exact h x hx'
   ·rcases List.mem_append.1 hx' with hx' | hx'
    ·exact h x hx'
    ·obtain rfl := List.mem_singleton.1 hx'
     exact hl s (List.mem_cons_self ..)
  obtain ⟨q1, q2, q3⟩ := steps_small i l (stepO i st s) (fun t ht => hl t (List.mem_cons_of_mem _ ht)) h1
  have hp : st.ord.length ≤ (stepO i st s).ord.length := (addO_prefix st.ord s.dst).length_le
  refine ⟨q1, ?_, Nat.le_trans hp q3⟩
  rw [List.foldl_cons, q2, List.length_cons]
  show (st.arcs ++ [_]).length + _ = _
  rw [List.length_append, List.length_cons, List.length_nil]
  omega
theorem run_small {M N : Mach} (hM : ValidM M) (hN : ValidM N) : ∀ (f i : Nat) (st : PSt), i ≤ st.ord.length → st.arcs.length ≤ i * (M.arcs.length * (N.arcs.length + 1) + N.arcs.length) → (∀ x ∈ st.ord, PairOk M N x) →
  (∀ x ∈ (runO M.arcs N.arcs f i st).ord, PairOk M N x) ∧ (runO M.arcs N.arcs f i st).arcs.length ≤ (runO M.arcs N.arcs f i st).ord.length * (M.arcs.length * (N.arcs.length + 1) + N.arcs.length)
 | 0, i, st, hi, ha, h => ⟨h, Nat.le_trans ha (Nat.mul_le_mul_right _ hi)⟩
 | f + 1, i, st, hi, ha, h => by
  unfold runO
  split
  ·rename_i hlt
   have hx : st.ord[i]? = some st.ord[i] := List.getElem?_eq_getElem hlt
   have hr : rowO M.arcs N.arcs i st = (stepsL M.arcs N.arcs st.ord[i]).foldl (stepO i) st := by unfold rowO; rw [hx]
   have hok := h _ (List.getElem_mem hlt)
   obtain ⟨q1, q2, q3⟩ := steps_small (M := M) (N := N) i (stepsL M.arcs N.arcs st.ord[i]) st (fun s hs => (mem_stepsL.1 hs).pair hM hN hok) h
   have hl := steps_len M.arcs N.arcs st.ord[i]
   rw [hr]
   refine run_small hM hN f (i + 1) _ (by omega) ?_ q1
   rw [q2, Nat.add_mul]
   omega
  ·exact ⟨h, Nat.le_trans ha (Nat.mul_le_mul_right _ hi)⟩
theorem pairs_few {M N : Mach} {a b : Nat} (ha : M.states ≤ a) (hb : N.states ≤ b) {l : List (Int × Int)} (hn : l.Nodup) (h : ∀ x ∈ l, PairOk M N x) : l.length ≤ a * b := by
 have := length_le_of_nodup (l := l) (m := (List.range a).flatMap (fun i : Nat => (List.range b).map (fun j : Nat => ((i : Int), (j : Int))))) hn (fun x hx => by
  obtain ⟨⟨p1, p2⟩, q1, q2⟩ := h x hx
  refine List.mem_flatMap.2 ⟨x.1.toNat, List.mem_range.2 (by omega), List.mem_map.2 ⟨x.2.toNat, List.mem_range.2 (by omega), ?_⟩⟩
  obtain ⟨x1, x2⟩ := x
  simp only [Prod.mk.injEq] at p1 p2 q1 q2 ⊢
  omega)
 have h2 := flatMap_len (fun i : Nat => (List.range b).map (fun j : Nat => ((i : Int), (j : Int)))) b (List.range a) (fun i _ => by simp)
 rw [List.length_range] at h2
 omega
where
 length_le_of_nodup {α : Type} {l m : List α} (hn : l.Nodup) (h : ∀ x ∈ l, x ∈ m) : l.length ≤ m.length := nodup_len' hn h
 nodup_len' {α : Type} {l m : List α} (hn : l.Nodup) (h : ∀ x ∈ l, x ∈ m) : l.length ≤ m.length := by
  induction l generalizing m with
  | nil => simp
  | cons x l ih =>
   obtain ⟨h1, h2⟩ := List.nodup_cons.1 hn
   have hx := h x (List.mem_cons_self ..)
   obtain ⟨s, t, rfl⟩ := List.append_of_mem hx
   have := ih (m := s ++ t) h2 (fun y hy => by
    have hy' := h y (List.mem_cons_of_mem _ hy)
    have hne : y ≠ x := fun e => h1 (e ▸ hy)
    simp only [List.mem_append, List.mem_cons] at hy' ⊢
    rcases hy' with q | q | q
    ·exact .inl q
    ·exact absurd q hne
    ·exact .inr q)
   simp only [List.length_append, List.length_cons] at this ⊢
   omega
/-- A composition of small machines is small. -/
theorem compose_small {M N : Mach} (hM : ValidM M) (hN : ValidM N) {a b : Nat} (ha : M.states ≤ a) (hb : N.states ≤ b) : (composeO M N).ord.length ≤ a * b ∧
  (composeO M N).arcs.length ≤ (composeO M N).ord.length * (M.arcs.length * (N.arcs.length + 1) + N.arcs.length) := by
 obtain ⟨h1, h2⟩ := run_small hM hN 4000 0 ⟨[(M.start, N.start)], []⟩ (Nat.zero_le _) (by simp) (fun x hx => by
  obtain rfl := List.mem_singleton.1 hx
  exact ⟨hM.start, hN.start⟩)
 obtain ⟨k, _, _, h3, _⟩ := CmpInv.run 4000 0 ⟨[(M.start, N.start)], []⟩ (CmpInv.first M N)
 exact ⟨pairs_few ha hb h3.nodup h1, h2⟩
end Go.Proofs.YtabocamjaecaaaaGreatDoor

/- CC · CR · CH · CO · CY · CQ · CS -/
/- Plain words: the machine that writes what it reads, for the words of an alphabet. No program in sight. -/
namespace Go.Proofs.YtabocamjaecaaaaGreatDoor
open Go Classical

/-- The arcs of a letter: from states 0 and 1, over states of its own from base on, to state 1. -/
def letTo (l : List UInt8) (base k : Nat) : Int := if k + 1 = l.length then 1 else (base : Int) + (k : Int)
def letArcs (l : List UInt8) (base : Nat) : List Arc :=
 [⟨0, byteL l 0, byteL l 0, letTo l base 0⟩, ⟨1, byteL l 0, byteL l 0, letTo l base 0⟩] ++ (List.range (l.length - 1)).map fun j : Nat => (⟨(base : Int) + (j : Int), byteL l (j + 1), byteL l (j + 1), letTo l base (j + 1)⟩ : Arc)
def copyArcs : Nat → List (List UInt8) → List Arc
 | _, [] => []
 | base, l :: r => letArcs l base ++ copyArcs (base + l.length - 1) r
def copyStates : Nat → List (List UInt8) → Nat
 | base, [] => base
 | base, l :: r => copyStates (base + l.length - 1) r

/-- Which letter a state belongs to, and how many of its bytes were read there. -/
def innFrom : Nat → List (List UInt8) → Int → Option (List UInt8 × Nat)
 | _, [], _ => none
 | base, l :: r, s => if (base : Int) ≤ s ∧ s < (base : Int) + (l.length - 1 : Nat) then some (l, (s - base).toNat + 1) else innFrom (base + l.length - 1) r s
theorem inn_low : ∀ (r : List (List UInt8)) (base : Nat) (s : Int), s < base → (∀ l ∈ r, 1 ≤ l.length) → innFrom base r s = none
 | [], _, _, _, _ => rfl
 | l :: r, base, s, h, hn => by
  have h1 := hn l (List.mem_cons_self ..)
  unfold innFrom
  rw [if_neg (by omega)]
  exact inn_low r _ s (by omega) (fun z hz => hn z (List.mem_cons_of_mem _ hz))
/-- An arc of a letter, as the states' letters tell. -/
def CopyArc (inn : Int → Option (List UInt8 × Nat)) (LS : List (List UInt8)) (a : Arc) : Prop :=
 ∃ l ∈ LS, ∃ k, k < l.length ∧ a.inp = byteL l k ∧ a.out = byteL l k ∧ ((k = 0 ∧ (a.frm = 0 ∨ a.frm = 1)) ∨ inn a.frm = some (l, k)) ∧ ((k + 1 = l.length ∧ a.to = 1) ∨ (k + 1 < l.length ∧ inn a.to = some (l, k + 1)))
def InOr (base : Nat) (s : Int) : Prop := s = 0 ∨ s = 1 ∨ (base : Int) ≤ s
theorem copy_let {l : List UInt8} {r : List (List UInt8)} {base : Nat} (h1 : 1 ≤ l.length) : ∀ a ∈ letArcs l base, CopyArc (innFrom base (l :: r)) (l :: r) a := by
 have inr : ∀ j : Nat, j < l.length - 1 → innFrom base (l :: r) ((base : Int) + (j : Int)) = some (l, j + 1) := fun j hj => by
  unfold innFrom
  rw [if_pos (by omega)]
  congr 2
  omega
 have hto : ∀ k, k < l.length → (k + 1 = l.length ∧ letTo l base k = 1) ∨ (k + 1 < l.length ∧ innFrom base (l :: r) (letTo l base k) = some (l, k + 1)) := fun k hk => by
  unfold letTo
  split
  ·rename_i e; exact .inl ⟨e, rfl⟩
  ·exact .inr ⟨by omega, inr k (by omega)⟩
 intro a ha
 unfold letArcs at ha
 simp only [List.mem_append, List.mem_cons, List.not_mem_nil, or_false, List.mem_map, List.mem_range] at ha
 rcases ha with (rfl | rfl) | ⟨j, hj, rfl⟩
 ·exact ⟨l, List.mem_cons_self .., 0, by omega, rfl, rfl, .inl ⟨rfl, .inl rfl⟩, hto 0 (by omega)⟩
 ·exact ⟨l, List.mem_cons_self .., 0, by omega, rfl, rfl, .inl ⟨rfl, .inr rfl⟩, hto 0 (by omega)⟩
 ·exact ⟨l, List.mem_cons_self .., j + 1, by omega, rfl, rfl, .inr (inr j hj), hto (j + 1) (by omega)⟩
theorem let_ends {l : List UInt8} {base : Nat} : ∀ a ∈ letArcs l base, InOr base a.frm ∧ InOr base a.to := by
 have hto : ∀ k, InOr base (letTo l base k) := fun k => by unfold letTo InOr; split; exact .inr (.inl rfl); exact .inr (.inr (by omega))
 intro a ha
 unfold letArcs at ha
 simp only [List.mem_append, List.mem_cons, List.not_mem_nil, or_false, List.mem_map, List.mem_range] at ha
 rcases ha with (rfl | rfl) | ⟨j, hj, rfl⟩
 ·exact ⟨.inl rfl, hto 0⟩
 ·exact ⟨.inr (.inl rfl), hto 0⟩
 ·exact ⟨.inr (.inr (by show (base : Int) ≤ (base : Int) + (j : Int); omega)), hto (j + 1)⟩
theorem copy_from : ∀ (r : List (List UInt8)) (base : Nat), 2 ≤ base → (∀ l ∈ r, 1 ≤ l.length) → ∀ a ∈ copyArcs base r, CopyArc (innFrom base r) r a ∧ InOr base a.frm ∧ InOr base a.to
 | [], _, _, _ => fun a ha => by simp [copyArcs] at ha
 | l :: r, base, hb, hn => by
  have h1 := hn l (List.mem_cons_self ..)
  intro a ha
  simp only [copyArcs, List.mem_append] at ha
  rcases ha with ha | ha
  ·exact ⟨copy_let h1 a ha, let_ends a ha⟩
  ·obtain ⟨⟨m, hm, k, q1, q2, q3, q4, q5⟩, e1, e2⟩ := copy_from r (base + l.length - 1) (by omega) (fun z hz => hn z (List.mem_cons_of_mem _ hz)) a ha
   have same : ∀ s : Int, InOr (base + l.length - 1) s → innFrom base (l :: r) s = innFrom (base + l.length - 1) r s := fun s hs => by
    conv => lhs; unfold innFrom
    rw [if_neg (by unfold InOr at hs; omega)]
   have up : ∀ s : Int, InOr (base + l.length - 1) s → InOr base s := fun s hs => by unfold InOr at hs ⊢; omega
   refine ⟨⟨m, List.mem_cons_of_mem _ hm, k, q1, q2, q3, ?_, ?_⟩, up _ e1, up _ e2⟩
   ·rw [same _ e1]; exact q4
   ·rw [same _ e2]; exact q5
/-- A letter's way. -/
theorem copy_has : ∀ (r : List (List UInt8)) (base : Nat), ∀ l ∈ r, 1 ≤ l.length → ∃ st : Nat → Int, st l.length = 1 ∧ (∀ f : Int, f = 0 ∨ f = 1 → (⟨f, byteL l 0, byteL l 0, st 1⟩ : Arc) ∈ copyArcs base r) ∧ ∀ k, 0 < k → k < l.length → (⟨st k, byteL l k, byteL l k, st (k + 1)⟩ : Arc) ∈ copyArcs base r
 | [], _, l, hl, _ => by simp at hl
 | m :: r, base, l, hl, h1 => by
  rcases List.mem_cons.1 hl with rfl | hl
  ·refine ⟨fun k => letTo l base (k - 1), by simp only [letTo]; rw [if_pos (by omega)], fun f hf => ?_, fun k h0 hk => ?_⟩
   ·refine List.mem_append.2 (.inl (List.mem_append.2 (.inl ?_)))
    rcases hf with rfl | rfl
    ·exact List.mem_cons_self ..
    ·exact List.mem_cons_of_mem _ (List.mem_cons_self ..)
   ·refine List.mem_append.2 (.inl (List.mem_append.2 (.inr (List.mem_map.2 ⟨k - 1, List.mem_range.2 (by omega), ?_⟩))))
    have e : k - 1 + 1 = k := by omega
    simp only [e, Nat.add_sub_cancel]
    congr 1
    unfold letTo
    rw [if_neg (by omega)]
  ·obtain ⟨st, q1, q2, q3⟩ := copy_has r (base + m.length - 1) l hl h1
   exact ⟨st, q1, fun f hf => List.mem_append.2 (.inr (q2 f hf)), fun k h0 hk => List.mem_append.2 (.inr (q3 k h0 hk))⟩

/-- Letters, one after the other. -/
inductive Cat (LS : List (List UInt8)) : List UInt8 → Prop
 | one {l : List UInt8} : l ∈ LS → Cat LS l
 | more {x l : List UInt8} : Cat LS x → l ∈ LS → Cat LS (x ++ l)
theorem symb_at {l : List UInt8} {k : Nat} (hk : k < l.length) (h0 : ∀ c ∈ l, c ≠ 0) : symb (byteL l k) = [l[k]] := by
 unfold byteL
 rw [List.getElem?_eq_getElem hk]
 exact symb_byte (h0 _ (List.getElem_mem hk))
/-- Where a way of the copy leads. -/
theorem copy_walk {LS : List (List UInt8)} (hn : ∀ l ∈ LS, 1 ≤ l.length) (h0 : ∀ l ∈ LS, ∀ c ∈ l, c ≠ 0) {arcs : List Arc} (hm : ∀ a ∈ arcs, a ∈ copyArcs 2 LS) {x y : List UInt8} {s : Int} (k : Walk arcs 0 x y s) :
  y = x ∧ ((s = 0 ∧ x = []) ∨ (s = 1 ∧ Cat LS x) ∨ ∃ l ∈ LS, ∃ j w, j < l.length ∧ innFrom 2 LS s = some (l, j) ∧ (w = [] ∨ Cat LS w) ∧ x = w ++ l.take j) := by
 have low0 : innFrom 2 LS 0 = none := inn_low LS 2 0 (by omega) hn
 have low1 : innFrom 2 LS 1 = none := inn_low LS 2 1 (by omega) hn
 induction k with
 | nil => exact ⟨rfl, .inl ⟨rfl, rfl⟩⟩
 | @snoc x y a _ ha ih =>
  obtain ⟨⟨l, hl, k, q1, q2, q3, q4, q5⟩, _, _⟩ := copy_from LS 2 (Nat.le_refl _) hn a (hm a ha)
  obtain ⟨rfl, ih⟩ := ih
  have e1 := symb_at q1 (h0 l hl)
  rw [q2, q3, e1]
  refine ⟨rfl, ?_⟩
  have hx : ∃ w, (w = [] ∨ Cat LS w) ∧ y = w ++ l.take k := by
   rcases q4 with ⟨rfl, hf⟩ | hf
   ·rcases ih with ⟨_, rfl⟩ | ⟨_, hc⟩ | ⟨m, _, j, w, _, hi, _⟩
    ·exact ⟨[], .inl rfl, by simp⟩
    ·exact ⟨y, .inr hc, by simp⟩
    ·rcases hf with e | e
     ·rw [e, low0] at hi; cases hi
     ·rw [e, low1] at hi; cases hi
   ·rcases ih with ⟨e, _⟩ | ⟨e, _⟩ | ⟨m, _, j, w, _, hi, hw, rfl⟩
    ·rw [e, low0] at hf; cases hf
    ·rw [e, low1] at hf; cases hf
    ·rw [hf] at hi
     cases hi
     exact ⟨w, hw, rfl⟩
  obtain ⟨w, hw, rfl⟩ := hx
  have e2 : w ++ l.take k ++ [l[k]] = w ++ l.take (k + 1) := by
   rw [List.append_assoc, List.take_add_one, List.getElem?_eq_getElem q1]; rfl
  rw [e2]
  rcases q5 with ⟨q5, q6⟩ | ⟨q5, q6⟩
  ·refine .inr (.inl ⟨q6, ?_⟩)
   rw [q5, List.take_length]
   rcases hw with rfl | hw
   ·rw [List.nil_append]; exact .one hl
   ·exact hw.more hl
  ·exact .inr (.inr ⟨l, hl, k + 1, w, q5, q6, hw, rfl⟩)
theorem letter_walk {LS : List (List UInt8)} {l : List UInt8} (hl : l ∈ LS) (h1 : 1 ≤ l.length) (h0 : ∀ c ∈ l, c ≠ 0) {arcs : List Arc} (hm : ∀ a ∈ copyArcs 2 LS, a ∈ arcs) {x : List UInt8} {f : Int} (hf : f = 0 ∨ f = 1) (k : Walk arcs 0 x x f) : Walk arcs 0 (x ++ l) (x ++ l) 1 := by
 obtain ⟨st, q1, q2, q3⟩ := copy_has LS 2 l hl h1
 have key : ∀ j, 0 < j → j ≤ l.length → Walk arcs 0 (x ++ l.take j) (x ++ l.take j) (st j) := fun j => by
  induction j with
  | zero => intro h; omega
  | succ j ih =>
   intro _ hj
   have e : ∀ z : List UInt8, z ++ l.take (j + 1) = z ++ l.take j ++ symb (byteL l j) := fun z => by
    rw [symb_at (by omega) h0, List.take_add_one, List.getElem?_eq_getElem (by omega), List.append_assoc]; rfl
   by_cases hj0 : j = 0
   ·subst hj0
    refine Walk.more (u := st 1) k (hm _ (q2 f hf)) ?_ ?_ <;> (rw [e]; simp)
   ·exact Walk.more (u := st (j + 1)) (ih (by omega) (by omega)) (hm _ (q3 j (by omega) (by omega))) (e x) (e x)
 have := key l.length (by omega) (Nat.le_refl _)
 rwa [List.take_length, q1] at this
theorem cat_walk {LS : List (List UInt8)} (hn : ∀ l ∈ LS, 1 ≤ l.length) (h0 : ∀ l ∈ LS, ∀ c ∈ l, c ≠ 0) {arcs : List Arc} (hm : ∀ a ∈ copyArcs 2 LS, a ∈ arcs) {x : List UInt8} (h : Cat LS x) : Walk arcs 0 x x 1 := by
 induction h with
 | one hl => simpa using letter_walk hl (hn _ hl) (h0 _ hl) hm (.inl rfl) (x := []) .nil
 | more _ hl ih => exact letter_walk hl (hn _ hl) (h0 _ hl) hm (.inr rfl) ih

/-- What Copy makes of the letters of a valid alphabet. -/
structure CopyM (LS : List (List UInt8)) (C : Mach) : Prop where
 states : C.states = (copyStates 2 LS : Nat)
 start : C.start = 0
 final : C.final = [1]
 arcsInc : Increasing C.arcs
 mem : ∀ a, a ∈ C.arcs ↔ a ∈ copyArcs 2 LS
theorem CopyM.result {LS : List (List UInt8)} {C : Mach} (h : CopyM LS C) (hn : ∀ l ∈ LS, 1 ≤ l.length) (h0 : ∀ l ∈ LS, ∀ c ∈ l, c ≠ 0) (hv : ∀ a ∈ C.arcs, SymOk a.inp) {x : List UInt8} {t : ByteArray} : Result C x t ↔ bl t = x ∧ Cat LS x := by
 rw [result_iff hv, h.start]
 constructor
 ·rintro ⟨s, hs, hw⟩
  rw [h.final] at hs
  obtain rfl := List.mem_singleton.1 hs
  obtain ⟨e, h1⟩ := copy_walk hn h0 (fun a ha => (h.mem a).1 ha) hw
  refine ⟨e, ?_⟩
  rcases h1 with ⟨h1, _⟩ | ⟨_, h1⟩ | ⟨l, _, j, w, _, hi, _⟩
  ·cases h1
  ·exact h1
  ·rw [inn_low LS 2 1 (by omega) hn] at hi; cases hi
 ·rintro ⟨rfl, hc⟩
  exact ⟨1, by rw [h.final]; simp, cat_walk hn h0 (fun a ha => (h.mem a).2 ha) hc⟩
end Go.Proofs.YtabocamjaecaaaaGreatDoor

/- Plain words: reading a text by letters, and texts that are letters one after the other. No program in sight. -/
namespace Go.Proofs.YtabocamjaecaaaaGreatDoor
open Go Classical

theorem cat_iff {L : List (List UInt8)} {x : List UInt8} : Cat L x ↔ ∃ ls : List (List UInt8), ls ≠ [] ∧ (∀ l ∈ ls, l ∈ L) ∧ x = ls.flatten := by
 constructor
 ·intro h
  induction h with
  | one hl => exact ⟨[_], by simp, fun m hm => by obtain rfl := List.mem_singleton.1 hm; exact hl, by simp⟩
  | more _ hl ih =>
   obtain ⟨ls, h1, h2, rfl⟩ := ih
   refine ⟨ls ++ [_], by simp, fun m hm => ?_, by rw [List.flatten_append]; simp; rfl⟩
   rcases List.mem_append.1 hm with hm | hm
   ·exact h2 m hm
   ·obtain rfl := List.mem_singleton.1 hm; exact hl
 ·rintro ⟨ls, h1, h2, rfl⟩
  have key : ∀ (n : Nat) (ls : List (List UInt8)), ls.length = n + 1 → (∀ l ∈ ls, l ∈ L) → Cat L ls.flatten := fun n => by
   induction n with
   | zero =>
    intro ls hl ha
    obtain ⟨l, rfl⟩ := List.length_eq_one_iff.1 hl
    simpa using Cat.one (ha l (by simp))
   | succ n ih =>
    intro ls hl ha
    have hne : ls ≠ [] := by intro e; subst e; simp at hl
    rw [← List.dropLast_concat_getLast hne, List.flatten_append]
    have := ih ls.dropLast (by rw [List.length_dropLast]; omega) (fun l hl => ha l (List.dropLast_subset _ hl))
    simpa using this.more (ha _ (List.getLast_mem hne))
  obtain ⟨m, hm⟩ : ∃ m, ls.length = m + 1 := ⟨ls.length - 1, by have := List.length_pos_iff.2 h1; omega⟩
  exact key m ls hm h2
/-- Letters that are told apart: no rest of a letter behind another one begins letters. -/
structure Told (L : List (List UInt8)) : Prop where
 nodup : L.Nodup
 len : ∀ l ∈ L, 1 ≤ l.length ∧ l.length ≤ 3
 apart : ∀ l ∈ L, ∀ m ∈ L, l ≠ m → m <+: l → ¬ Follows L (l.drop m.length)
theorem follows_pre {L : List (List UInt8)} : ∀ (ls : List (List UInt8)) (r : List UInt8), (∀ l ∈ ls, l ∈ L) → r ≠ [] → r <+: ls.flatten → Follows L r
 | [], r, _, hr, hp => absurd (List.prefix_nil.1 (by simpa using hp)) hr
 | l :: ls, r, h, hr, hp => by
  rw [List.flatten_cons] at hp
  rcases List.prefix_or_prefix_of_prefix hp (List.prefix_append l ls.flatten) with h1 | h1
  ·exact (follows_iff L r).2 ⟨l, h l (List.mem_cons_self ..), .inl h1⟩
  ·obtain ⟨r', rfl⟩ := h1
   by_cases e : r' = []
   ·subst e
    exact (follows_iff L _).2 ⟨l, h l (List.mem_cons_self ..), .inl (by simp)⟩
   ·have hp' : r' <+: ls.flatten := (List.prefix_append_right_inj l).1 hp
    exact (follows_iff L _).2 ⟨l, h l (List.mem_cons_self ..), .inr ⟨r', rfl, follows_pre ls r' (fun m hm => h m (List.mem_cons_of_mem _ hm)) e hp'⟩⟩
theorem at_cat {L : List (List UInt8)} (hT : Told L) {l : List UInt8} (hl : l ∈ L) {ls : List (List UInt8)} (ha : ∀ m ∈ ls, m ∈ L) : ∃ k, atF L (l ++ ls.flatten) = some k ∧ L[k]? = some l := by
 obtain ⟨k, hk⟩ := List.mem_iff_getElem?.1 hl
 refine ⟨k, ?_, hk⟩
 refine atN_best L hT.nodup _ k l hk (List.prefix_append _ _) (fun m hm hp => ?_) (hT.len l hl).1 3 (hT.len l hl).2
 rcases Nat.lt_or_ge l.length m.length with h | h
 ·exfalso
  have h1 : l <+: m := List.prefix_of_prefix_length_le (List.prefix_append l ls.flatten) hp (by omega)
  obtain ⟨r, rfl⟩ := h1
  have hr : r ≠ [] := by intro e; subst e; simp at h
  have h2 : r <+: ls.flatten := (List.prefix_append_right_inj l).1 hp
  have := hT.apart _ hm l hl (fun e => hr (by simpa using e)) (List.prefix_append _ _)
  rw [List.drop_left] at this
  exact this (follows_pre ls r ha hr h2)
 ·exact h
theorem readGo_cat {L : List (List UInt8)} (hT : Told L) : ∀ (ls : List (List UInt8)) (f o : Nat) (acc : List Int), (∀ m ∈ ls, m ∈ L) → (ls.length ≤ f → (readGo L f ls.flatten o acc).err = 0) ∧ (f < ls.length → (readGo L f ls.flatten o acc).err = 2)
 | [], f, o, acc, _ => by
  constructor
  ·intro _; cases f <;> simp [readGo]
  ·intro h; simp at h
 | l :: ls, f, o, acc, ha => by
  have hl := ha l (List.mem_cons_self ..)
  have ha' : ∀ m ∈ ls, m ∈ L := fun m hm => ha m (List.mem_cons_of_mem _ hm)
  obtain ⟨k, hk1, hk2⟩ := at_cat hT hl ha'
  have hne : ¬ (l ++ ls.flatten = []) := fun e => by
   have := (hT.len l hl).1
   rw [(List.append_eq_nil_iff.1 e).1] at this
   simp at this
  rw [List.flatten_cons]
  cases f with
  | zero =>
   constructor
   ·intro h; simp at h
   ·intro _
    unfold readGo
    rw [if_neg hne, hk1]
  | succ f =>
   obtain ⟨i1, i2⟩ := readGo_cat hT ls f (o + l.length) (acc ++ [(k : Int)]) ha'
   have e : readGo L (f + 1) (l ++ ls.flatten) o acc = readGo L f ls.flatten (o + l.length) (acc ++ [(k : Int)]) := by
    conv => lhs; unfold readGo
    rw [if_neg hne, hk1]
    simp only [hk2, Option.getD_some, List.drop_left]
   rw [e, List.length_cons]
   exact ⟨fun h => i1 (by omega), fun h => i2 (by omega)⟩
theorem readGo_ok {L : List (List UInt8)} : ∀ (f : Nat) (t : List UInt8) (o : Nat) (acc : List Int), (readGo L f t o acc).err = 0 → ∃ ls : List (List UInt8), (∀ m ∈ ls, m ∈ L) ∧ t = ls.flatten
 | 0, t, o, acc, h => by
  unfold readGo at h
  split at h
  ·rename_i e; exact ⟨[], by simp, by simpa using e⟩
  ·split at h <;> simp at h
 | f + 1, t, o, acc, h => by
  unfold readGo at h
  split at h
  ·rename_i e; exact ⟨[], by simp, by simpa using e⟩
  ·split at h
   ·simp at h
   ·rename_i k hk
    obtain ⟨l, h1, h2, _⟩ := atN_some hk
    obtain ⟨ls, q1, q2⟩ := readGo_ok f _ _ _ h
    rw [h1] at q2
    simp only [Option.getD_some] at q2
    refine ⟨l :: ls, fun m hm => ?_, by rw [List.flatten_cons, ← q2]; exact prefix_drop h2⟩
    rcases List.mem_cons.1 hm with rfl | hm
    ·exact List.mem_of_getElem? h1
    ·exact q1 m hm
theorem flatten_len {L : List (List UInt8)} (h : ∀ l ∈ L, 1 ≤ l.length) : ∀ ls : List (List UInt8), (∀ m ∈ ls, m ∈ L) → ls.length ≤ ls.flatten.length
 | [], _ => by simp
 | l :: ls, ha => by
  have h1 := h l (ha l (List.mem_cons_self ..))
  have h2 := flatten_len h ls (fun m hm => ha m (List.mem_cons_of_mem _ hm))
  rw [List.flatten_cons, List.length_append, List.length_cons]
  omega
/-- Reading a text of letters: it is read, or has too many of them. -/
theorem read_cat {L : List (List UInt8)} (hT : Told L) {x : List UInt8} (h : Cat L x) : (readL L x).err = 0 ∨ ((readL L x).err = 2 ∧ 24 < x.length) := by
 obtain ⟨ls, h1, h2, rfl⟩ := cat_iff.1 h
 have hl := flatten_len (fun l hl => (hT.len l hl).1) ls h2
 have hp := List.length_pos_iff.2 h1
 have hne : ¬ ls.flatten = [] := fun e => by rw [e, List.length_nil] at hl; omega
 unfold readL
 rw [if_neg hne]
 obtain ⟨i1, i2⟩ := readGo_cat hT ls 24 0 [] h2
 rcases Nat.lt_or_ge 24 ls.length with h3 | h3
 ·exact .inr ⟨i2 h3, by omega⟩
 ·exact .inl (i1 h3)
theorem cat_of_read {L : List (List UInt8)} {x : List UInt8} (h : (readL L x).err = 0) : Cat L x := by
 unfold readL at h
 split at h
 ·simp at h
 ·rename_i hne
  obtain ⟨ls, h1, h2⟩ := readGo_ok 24 x 0 [] h
  exact cat_iff.2 ⟨ls, fun e => hne (by rw [h2, e]; rfl), h1, h2⟩
theorem told_of {A : Alph} (h : Valid10 A) : Told A.bls := by
 refine ⟨h.1.nodup, h.1.len, fun l hl m hm hne hp => ?_⟩
 obtain ⟨a, ha, rfl⟩ := List.mem_map.1 hl
 obtain ⟨b, hb, rfl⟩ := List.mem_map.1 hm
 obtain ⟨i, hi⟩ := List.mem_iff_getElem?.1 ha
 obtain ⟨k, hk⟩ := List.mem_iff_getElem?.1 hb
 rw [bl_length]
 exact h.2 i k a b (fun e => hne (by rw [e, hk] at hi; cases hi; rfl)) hi hk hp
theorem letters_print {A : Alph} (h : Valid10 A) : ∀ l ∈ A.bls, ∀ c ∈ l, 33 ≤ c.toNat ∧ c.toNat ≤ 126 := fun l hl c hc => by
 obtain ⟨a, ha, rfl⟩ := List.mem_map.1 hl
 have h1 := List.all_eq_true.1 (h.1.2.2.2.2.1 a ha).2.2 c hc
 simp [printC] at h1
 omega

theorem copyStates_ge : ∀ (r : List (List UInt8)) (base : Nat), (∀ l ∈ r, 1 ≤ l.length) → base ≤ copyStates base r
 | [], _, _ => Nat.le_refl _
 | l :: r, base, h => by
  have h1 := h l (List.mem_cons_self ..)
  have := copyStates_ge r (base + l.length - 1) (fun m hm => h m (List.mem_cons_of_mem _ hm))
  simp only [copyStates]; omega
theorem copyStates_le : ∀ (r : List (List UInt8)) (base : Nat), (∀ l ∈ r, l.length ≤ 3) → copyStates base r ≤ base + 2 * r.length
 | [], _, _ => Nat.le_refl _
 | l :: r, base, h => by
  have h1 := h l (List.mem_cons_self ..)
  have := copyStates_le r (base + l.length - 1) (fun m hm => h m (List.mem_cons_of_mem _ hm))
  simp only [copyStates, List.length_cons]; omega
theorem copyArcs_len : ∀ (r : List (List UInt8)) (base : Nat), (∀ l ∈ r, l.length ≤ 3) → (copyArcs base r).length ≤ 4 * r.length
 | [], _, _ => by simp [copyArcs]
 | l :: r, base, h => by
  have h1 := h l (List.mem_cons_self ..)
  have := copyArcs_len r (base + l.length - 1) (fun m hm => h m (List.mem_cons_of_mem _ hm))
  simp only [copyArcs, letArcs, List.length_append, List.length_cons, List.length_nil, List.length_map, List.length_range]
  omega
theorem copy_in {n : Nat} : ∀ (r : List (List UInt8)) (base : Nat), 2 ≤ base → (∀ l ∈ r, 1 ≤ l.length) → (∀ l ∈ r, ∀ k, SymOk (byteL l k)) → copyStates base r ≤ n → ∀ a ∈ copyArcs base r, StateOk n a.frm ∧ StateOk n a.to ∧ SymOk a.inp ∧ SymOk a.out
 | [], _, _, _, _, _ => fun a ha => by simp [copyArcs] at ha
 | l :: r, base, hb, hl, hs, hn => by
  have h1 := hl l (List.mem_cons_self ..)
  have hr : ∀ m ∈ r, 1 ≤ m.length := fun m hm => hl m (List.mem_cons_of_mem _ hm)
  have hge := copyStates_ge r (base + l.length - 1) hr
  simp only [copyStates] at hn
  have hto : ∀ k, k < l.length → StateOk n (letTo l base k) := fun k hk => by
   unfold letTo StateOk
   split <;> omega
  have hsl := hs l (List.mem_cons_self ..)
  intro a ha
  simp only [copyArcs, List.mem_append] at ha
  rcases ha with ha | ha
  ·unfold letArcs at ha
   simp only [List.mem_append, List.mem_cons, List.not_mem_nil, or_false, List.mem_map, List.mem_range] at ha
   rcases ha with (rfl | rfl) | ⟨j, hj, rfl⟩
   ·exact ⟨⟨by show (0 : Int) ≤ 0; omega, by show (0 : Int) < n; omega⟩, hto 0 (by omega), hsl 0, hsl 0⟩
   ·exact ⟨⟨by show (0 : Int) ≤ 1; omega, by show (1 : Int) < n; omega⟩, hto 0 (by omega), hsl 0, hsl 0⟩
   ·exact ⟨⟨by show (0 : Int) ≤ (base : Int) + (j : Int); omega, by show (base : Int) + (j : Int) < n; omega⟩, hto (j + 1) (by omega), hsl _, hsl _⟩
  ·exact copy_in r (base + l.length - 1) (by omega) hr (fun m hm => hs m (List.mem_cons_of_mem _ hm)) hn a ha
theorem CopyM.valid {A : Alph} (hA : Valid10 A) {C : Mach} (h : CopyM A.bls C) : ValidM C := by
 have hT := told_of hA
 have h64 : A.bls.length ≤ 64 := by unfold Alph.bls; rw [List.length_map]; exact hA.1.2.2.1
 have hn : ∀ l ∈ A.bls, 1 ≤ l.length := fun l hl => (hT.len l hl).1
 have h3 : ∀ l ∈ A.bls, l.length ≤ 3 := fun l hl => (hT.len l hl).2
 have hs : ∀ l ∈ A.bls, ∀ k, SymOk (byteL l k) := fun l hl k => by
  unfold byteL
  cases hk : l[k]? with
  | none => exact .inl rfl
  | some c =>
   have := letters_print hA l hl c (List.mem_of_getElem? hk)
   exact .inr ⟨by show (33 : Int) ≤ (c.toNat : Int); omega, by show (c.toNat : Int) ≤ 126; omega⟩
 have hge := copyStates_ge A.bls 2 hn
 have hle := copyStates_le A.bls 2 h3
 have hal := copyArcs_len A.bls 2 h3
 have hcl := nodup_len h.arcsInc.nodup (fun y hy => (h.mem y).1 hy)
 have hst := h.states
 refine ⟨by omega, by omega, by rw [h.start, hst]; exact ⟨by omega, by omega⟩, by omega, fun s hs' => ?_, by rw [h.final]; simp, fun a ha => ?_, h.arcsInc⟩
 ·rw [h.final] at hs'
  obtain rfl := List.mem_singleton.1 hs'
  rw [hst]
  exact ⟨by omega, by omega⟩
 ·rw [hst]
  exact copy_in A.bls 2 (Nat.le_refl _) hn hs (Nat.le_refl _) a ((h.mem a).1 ha)
/-- The copy machine of an alphabet reads no silent circle: it has no silent arc. -/
theorem CopyM.plain {A : Alph} (hA : Valid10 A) {C : Mach} (h : CopyM A.bls C) : ¬ Circle C := by
 have hT := told_of hA
 rintro ⟨s, hs⟩
 obtain ⟨c, ⟨a, ha, _⟩, _⟩ := way_first hs
 obtain ⟨h1, _, h3⟩ := mem_runA.1 ha
 obtain ⟨⟨l, hl, k, q1, q2, _⟩, _⟩ := copy_from A.bls 2 (Nat.le_refl _) (fun l hl => (hT.len l hl).1) a ((h.mem a).1 h1)
 rw [h3] at q2
 unfold byteL at q2
 rw [List.getElem?_eq_getElem q1] at q2
 have := letters_print hA l hl _ (List.getElem_mem q1)
 simp only at q2
 omega
end Go.Proofs.YtabocamjaecaaaaGreatDoor

/- Plain words: the machines of layer 14's examples. No program in sight. -/
namespace Go.Proofs.YtabocamjaecaaaaGreatDoor
open Go Classical

def tx (l : List UInt8) : ByteArray := ⟨l.toArray⟩
end Go.Proofs.YtabocamjaecaaaaGreatDoor

/- Plain words: what composing, uniting and copying answer. No program in sight. -/
namespace Go.Proofs.YtabocamjaecaaaaGreatDoor
open Go Classical

def zeroM : Mach := ⟨0, 0, [], []⟩
/-- The arcs of a list in order, each once. -/
def ArcsOf (l S : List Arc) : Prop := Increasing S ∧ ∀ a, a ∈ S ↔ a ∈ l
theorem ArcsOf.len {l S : List Arc} (h : ArcsOf l S) : S.length ≤ l.length := nodup_len h.1.nodup (fun a ha => (h.2 a).1 ha)

/-- A pair of final states. -/
def FinP (M N : Mach) (ord : List (Int × Int)) (j : Nat) : Prop := ∃ z, ord[j]? = some z ∧ z.1 ∈ M.final ∧ z.2 ∈ N.final
noncomputable def finO (M N : Mach) (ord : List (Int × Int)) (i : Nat) : List Int := ((List.range i).filter (fun j => decide (FinP M N ord j))).map (fun j : Nat => (j : Int))
theorem mem_finO {M N : Mach} {ord : List (Int × Int)} {i : Nat} {s : Int} : s ∈ finO M N ord i ↔ ∃ j : Nat, j < i ∧ s = j ∧ FinP M N ord j := by
 unfold finO
 simp only [List.mem_map, List.mem_filter, List.mem_range, decide_eq_true_eq]
 constructor
 ·rintro ⟨j, ⟨h1, h2⟩, rfl⟩; exact ⟨j, h1, rfl, h2⟩
 ·rintro ⟨j, h1, rfl, h2⟩; exact ⟨j, ⟨h1, h2⟩, rfl⟩
theorem finO_inc (M N : Mach) (ord : List (Int × Int)) (i : Nat) : (finO M N ord i).Pairwise (· < ·) := by
 unfold finO
 rw [List.pairwise_map]
 refine List.Pairwise.imp (fun {a b} h => ?_) (List.Pairwise.filter _ List.pairwise_lt_range)
 show (a : Int) < (b : Int)
 omega
/-- The composition before it is trimmed. -/
noncomputable def rawM (M N : Mach) (S : List Arc) : Mach := ⟨((composeO M N).ord.length : Nat), 0, finO M N (composeO M N).ord (composeO M N).ord.length, S⟩
def Big (M N : Mach) (S : List Arc) : Prop := 4000 < (composeO M N).ord.length ∨ 20000 < S.length
def CompOut (M N C : Mach) (err : Int) : Prop :=
 (¬ (ValidM M ∧ ValidM N) ∧ err = 1 ∧ C = zeroM) ∨ (ValidM M ∧ ValidM N ∧ ∃ S, ArcsOf (composeO M N).arcs S ∧ ((Big M N S ∧ err = 2 ∧ C = zeroM) ∨ (¬ Big M N S ∧ err = 0 ∧ C = trimM (rawM M N S))))
section
variable {M N C C' : Mach} {e e' : Int}
theorem raw_comp (hM : ValidM M) (hN : ValidM N) {S : List Arc} (hS : ArcsOf (composeO M N).arcs S) (hb : ¬ Big M N S) : CompM M N (rawM M N S) (composeO M N).ord (composeO M N).arcs ∧ ValidM (rawM M N S) := by
 unfold Big at hb
 have h1 : CompM M N (rawM M N S) (composeO M N).ord (composeO M N).arcs := ⟨comp_of (by omega), rfl, rfl, fun s => by
  show s ∈ finO M N _ _ ↔ _
  rw [mem_finO]
  constructor
  ·rintro ⟨j, _, rfl, z, h1, h2, h3⟩; exact ⟨j, z, rfl, h1, h2, h3⟩
  ·rintro ⟨j, z, rfl, h1, h2, h3⟩
   exact ⟨j, (List.getElem?_eq_some_iff.1 h1).1, rfl, z, h1, h2, h3⟩, finO_inc _ _ _ _, hS.1, hS.2⟩
 exact ⟨h1, h1.valid hM hN (by omega) (by show S.length ≤ _; omega)⟩
theorem CompOut.cases (h : CompOut M N C e) : (e = 1 ∧ ¬ (ValidM M ∧ ValidM N) ∧ C = zeroM) ∨ (e = 2 ∧ ValidM M ∧ ValidM N ∧ C = zeroM) ∨ (e = 0 ∧ ValidM M ∧ ValidM N ∧ Composed M N C) := by
 rcases h with ⟨n, rfl, rfl⟩ | ⟨hM, hN, S, hS, ⟨b, rfl, rfl⟩ | ⟨b, rfl, rfl⟩⟩
 ·exact .inl ⟨rfl, n, rfl⟩
 ·exact .inr (.inl ⟨rfl, hM, hN, rfl⟩)
 ·obtain ⟨h1, h2⟩ := raw_comp hM hN hS b
  exact .inr (.inr ⟨rfl, hM, hN, _, _, _, h1, h2, rfl⟩)
/-- Small machines have no limit. -/
theorem CompOut.small (h : CompOut M N C e) (hM : ValidM M) (hN : ValidM N) (m8 : M.states ≤ 8) (n8 : N.states ≤ 8) (ma : M.arcs.length ≤ 14) (na : N.arcs.length ≤ 14) : e = 0 := by
 rcases h with ⟨n, _, _⟩ | ⟨_, _, S, hS, ⟨b, _, _⟩ | ⟨_, rfl, _⟩⟩
 ·exact absurd ⟨hM, hN⟩ n
 ·exfalso
  obtain ⟨h1, h2⟩ := compose_small hM hN (a := 8) (b := 8) m8 n8
  have h3 := hS.len
  have h4 : M.arcs.length * (N.arcs.length + 1) ≤ 14 * 15 := Nat.mul_le_mul ma (by omega)
  have h5 : (composeO M N).ord.length * (M.arcs.length * (N.arcs.length + 1) + N.arcs.length) ≤ 64 * 224 := Nat.mul_le_mul h1 (by omega)
  unfold Big at b
  omega
 ·rfl
end

def UnionOut (M N U : Mach) (err : Int) : Prop :=
 (¬ (ValidM M ∧ ValidM N) ∧ err = 1 ∧ U = zeroM) ∨ (ValidM M ∧ ValidM N ∧ ∃ U0, UnionM M N U0 ∧ (((4000 < U0.states ∨ 20000 < U0.arcs.length) ∧ err = 2 ∧ U = zeroM) ∨ (¬ (4000 < U0.states ∨ 20000 < U0.arcs.length) ∧ err = 0 ∧ U = U0)))
theorem UnionOut.cases {M N U : Mach} {e : Int} (h : UnionOut M N U e) : (e = 1 ∧ ¬ (ValidM M ∧ ValidM N) ∧ U = zeroM) ∨ (e = 2 ∧ ValidM M ∧ ValidM N ∧ U = zeroM ∧ (4000 < M.states + N.states + 1 ∨ 20000 < 2 * (M.arcs.length + N.arcs.length))) ∨ (e = 0 ∧ ValidM M ∧ ValidM N ∧ UnionM M N U ∧ ValidM U) := by
 rcases h with ⟨n, rfl, rfl⟩ | ⟨hM, hN, U0, hU, ⟨b, rfl, rfl⟩ | ⟨b, rfl, rfl⟩⟩
 ·exact .inl ⟨rfl, n, rfl⟩
 ·refine .inr (.inl ⟨rfl, hM, hN, rfl, ?_⟩)
  rcases b with b | b
  ·rw [hU.states] at b; exact .inl b
  ·right
   have h1 : U0.arcs.length ≤ (M.arcs ++ N.arcs.map (fun b : Arc => (⟨b.frm + M.states, b.inp, b.out, b.to + M.states⟩ : Arc)) ++ M.arcs.map (fun b : Arc => (⟨U0.start, b.inp, b.out, b.to⟩ : Arc)) ++ N.arcs.map (fun b : Arc => (⟨U0.start, b.inp, b.out, b.to + M.states⟩ : Arc))).length := nodup_len hU.arcsInc.nodup (fun a ha => by
    simp only [List.mem_append, List.mem_map]
    rcases (hU.mem a).1 ha with h | ⟨b, h, rfl⟩ | ⟨b, h, _, rfl⟩ | ⟨b, h, _, rfl⟩
    ·exact .inl (.inl (.inl h))
    ·exact .inl (.inl (.inr ⟨b, h, rfl⟩))
    ·exact .inl (.inr ⟨b, h, rfl⟩)
    ·exact .inr ⟨b, h, rfl⟩)
   simp only [List.length_append, List.length_map] at h1
   omega
 ·exact .inr (.inr ⟨rfl, hM, hN, hU, hU.valid hM hN (by omega) (by omega)⟩)

end Go.Proofs.YtabocamjaecaaaaGreatDoor

/- Plain words: a machine composed with the copy of an alphabet. No program in sight. -/
namespace Go.Proofs.YtabocamjaecaaaaGreatDoor
open Go Classical

section
variable {A : Alph} {M C D : Mach}
end
end Go.Proofs.YtabocamjaecaaaaGreatDoor

/- Plain words: what is known while a composition is made, row by row. No program in sight. -/
namespace Go.Proofs.YtabocamjaecaaaaGreatDoor
open Go Classical

def bigK (M N : Mach) : Nat := M.arcs.length * (N.arcs.length + 1) + N.arcs.length
/-- When i pairs were followed. -/
structure PInv (M N : Mach) (st : PSt) (i : Nat) : Prop where
 run : composeO M N = runO M.arcs N.arcs (4000 - i) i st
 pair : ∀ x ∈ st.ord, PairOk M N x
 nodup : st.ord.Nodup
 len : st.arcs.length ≤ i * bigK M N
 il : i ≤ st.ord.length
 i4 : i ≤ 4000
/-- In the midst of a pair's steps. -/
structure MInv (M N : Mach) (i : Nat) (st0 st : PSt) : Prop where
 pair : ∀ x ∈ st.ord, PairOk M N x
 nodup : st.ord.Nodup
 pre : st0.ord <+: st.ord
 len : st.arcs.length ≤ i * bigK M N + bigK M N
section
variable {M N : Mach} {st st' : PSt} {i : Nat}
theorem PInv.start (hM : ValidM M) (hN : ValidM N) : PInv M N ⟨[(M.start, N.start)], []⟩ 0 :=
 ⟨rfl, fun x hx => by obtain rfl := List.mem_singleton.1 hx; exact ⟨hM.start, hN.start⟩, by simp, Nat.zero_le _, Nat.zero_le _, Nat.zero_le _⟩
theorem fold_nodup (i : Nat) : ∀ (l : List PStep) (st : PSt), st.ord.Nodup → (l.foldl (stepO i) st).ord.Nodup ∧ st.ord <+: (l.foldl (stepO i) st).ord
 | [], _, h => ⟨h, List.prefix_refl _⟩
 | s :: l, st, h => by
  obtain ⟨h1, h2⟩ := fold_nodup i l (stepO i st s) (nodup_addO h _)
  exact ⟨h1, (addO_prefix st.ord s.dst).trans h2⟩
/-- Some of a pair's steps are done. -/
theorem PInv.mid (h : PInv M N st i) (hM : ValidM M) (hN : ValidM N) (hi : i < st.ord.length) {pre : List PStep} (hp : ∀ s ∈ pre, s ∈ stepsL M.arcs N.arcs st.ord[i]) (h1 : pre.length ≤ (stepsL M.arcs N.arcs st.ord[i]).length) : MInv M N i st (pre.foldl (stepO i) st) := by
 have hx := h.pair _ (List.getElem_mem hi)
 obtain ⟨q1, q2, _⟩ := steps_small (M := M) (N := N) i pre st (fun s hs => (mem_stepsL.1 (hp s hs)).pair hM hN hx) h.pair
 obtain ⟨q3, q4⟩ := fold_nodup i pre st h.nodup
 refine ⟨q1, q3, q4, ?_⟩
 rw [q2]
 have h2 := steps_len M.arcs N.arcs st.ord[i]
 have h3 := h.len
 unfold bigK at h3 ⊢
 omega
theorem PInv.next (h : PInv M N st i) (hM : ValidM M) (hN : ValidM N) (hi : i < st.ord.length) (h4 : i < 4000) : PInv M N ((stepsL M.arcs N.arcs st.ord[i]).foldl (stepO i) st) (i + 1) := by
 have hm := h.mid hM hN hi (pre := stepsL M.arcs N.arcs st.ord[i]) (fun _ h => h) (Nat.le_refl _)
 have hr : rowO M.arcs N.arcs i st = (stepsL M.arcs N.arcs st.ord[i]).foldl (stepO i) st := by unfold rowO; rw [List.getElem?_eq_getElem hi]
 refine ⟨?_, hm.pair, hm.nodup, ?_, ?_, by omega⟩
 ·rw [h.run, show 4000 - i = (4000 - (i + 1)) + 1 by omega, runO, if_pos hi, hr]
 ·have := hm.len
  rw [Nat.add_mul]
  omega
 ·have := hm.pre.length_le
  omega
theorem PInv.done (h : PInv M N st i) (hd : st.ord.length ≤ i ∨ i = 4000) : composeO M N = st := by
 rw [h.run]
 rcases hd with hd | rfl
 ·cases h4 : 4000 - i with
  | zero => rfl
  | succ f => rw [runO, if_neg (by omega)]
 ·rfl
/-- What is known at the end. -/
theorem PInv.out (h : PInv M N st i) (hM : ValidM M) (hN : ValidM N) (hd : st.ord.length ≤ i ∨ i = 4000) {S : List Arc} (hS : ArcsOf st.arcs S) : (4000 < st.ord.length ∨ 20000 < S.length → CompOut M N zeroM 2) ∧
  (¬ (4000 < st.ord.length ∨ 20000 < S.length) → ValidM ⟨(st.ord.length : Nat), 0, finO M N st.ord i, S⟩ ∧ CompOut M N (trimM ⟨(st.ord.length : Nat), 0, finO M N st.ord i, S⟩) 0) := by
 have e := h.done hd
 have hS' : ArcsOf (composeO M N).arcs S := by rw [e]; exact hS
 constructor
 ·intro hb
  exact .inr ⟨hM, hN, S, hS', .inl ⟨by unfold Big; rw [e]; exact hb, rfl, rfl⟩⟩
 ·intro hb
  have hb' : ¬ Big M N S := by unfold Big; rw [e]; exact hb
  have hi : i = st.ord.length := by have := h.il; omega
  have er : rawM M N S = ⟨(st.ord.length : Nat), 0, finO M N st.ord i, S⟩ := by unfold rawM; rw [e, hi]
  rw [← er]
  exact ⟨(raw_comp hM hN hS' hb').2, .inr ⟨hM, hN, S, hS', .inr ⟨hb', rfl, rfl⟩⟩⟩
end
end Go.Proofs.YtabocamjaecaaaaGreatDoor

/- Plain words: the arcs of the copy machine in the order in which they are made. No program in sight. -/
namespace Go.Proofs.YtabocamjaecaaaaGreatDoor
open Go Classical

end Go.Proofs.YtabocamjaecaaaaGreatDoor
