/- Plain words: the composition of two machines: pairs of states in the order in which they are found, and their arcs. No program in sight. -/
import Derived.Test.YtgaldlecnfekaaaGreatDoorT0
namespace Go.Proofs.YtgaldlecnfekaaaGreatDoor
open Go Classical

/-- A step of a pair of states: what is read, what is written, where it leads. -/
structure PStep where
  inp : Int
  out : Int
  dst : Int × Int
/-- The steps of a pair, in order. -/
noncomputable def stepsL (m n : List Arc) (x : Int × Int) : List PStep :=
  ((m.filter (fun a => decide (a.frm = x.1))).flatMap (fun a => if a.out = 0 then [⟨a.inp, 0, (a.to, x.2)⟩] else
    (n.filter (fun b => decide (b.frm = x.2 ∧ b.inp = a.out))).map (fun b => ⟨a.inp, b.out, (a.to, b.to)⟩))) ++
  (n.filter (fun b => decide (b.frm = x.2 ∧ b.inp = 0))).map (fun b => ⟨0, b.out, (x.1, b.to)⟩)
/-- The three kinds of steps. -/
def StepOf (m n : List Arc) (x : Int × Int) (s : PStep) : Prop :=
  (∃ a ∈ m, a.frm = x.1 ∧ a.out = 0 ∧ s = ⟨a.inp, 0, (a.to, x.2)⟩) ∨
  (∃ a ∈ m, ∃ b ∈ n, a.frm = x.1 ∧ a.out ≠ 0 ∧ b.frm = x.2 ∧ b.inp = a.out ∧ s = ⟨a.inp, b.out, (a.to, b.to)⟩) ∨
  (∃ b ∈ n, b.frm = x.2 ∧ b.inp = 0 ∧ s = ⟨0, b.out, (x.1, b.to)⟩)
theorem mem_stepsL {m n : List Arc} {x : Int × Int} {s : PStep} : s ∈ stepsL m n x ↔ StepOf m n x s := by
  unfold stepsL StepOf
  rw [List.mem_append, List.mem_flatMap, List.mem_map]
  constructor
  · rintro (⟨a, ha, hs⟩ | ⟨b, hb, rfl⟩)
    · obtain ⟨ha1, ha2⟩ := List.mem_filter.1 ha
      have ha3 : a.frm = x.1 := by simpa using ha2
      by_cases h0 : a.out = 0
      · rw [if_pos h0] at hs
        obtain rfl := List.mem_singleton.1 hs
        exact .inl ⟨a, ha1, ha3, h0, rfl⟩
      · rw [if_neg h0] at hs
        obtain ⟨b, hb, rfl⟩ := List.mem_map.1 hs
        obtain ⟨hb1, hb2⟩ := List.mem_filter.1 hb
        have hb3 : b.frm = x.2 ∧ b.inp = a.out := by simpa using hb2
        exact .inr (.inl ⟨a, ha1, b, hb1, ha3, h0, hb3.1, hb3.2, rfl⟩)
    · obtain ⟨hb1, hb2⟩ := List.mem_filter.1 hb
      have hb3 : b.frm = x.2 ∧ b.inp = 0 := by simpa using hb2
      exact .inr (.inr ⟨b, hb1, hb3.1, hb3.2, rfl⟩)
  · rintro (⟨a, ha, h1, h0, rfl⟩ | ⟨a, ha, b, hb, h1, h0, h2, h3, rfl⟩ | ⟨b, hb, h1, h2, rfl⟩)
    · exact .inl ⟨a, List.mem_filter.2 ⟨ha, by simpa using h1⟩, by rw [if_pos h0]; exact List.mem_singleton.2 rfl⟩
    · exact .inl ⟨a, List.mem_filter.2 ⟨ha, by simpa using h1⟩, by rw [if_neg h0]; exact List.mem_map.2 ⟨b, List.mem_filter.2 ⟨hb, by simpa using ⟨h2, h3⟩⟩, rfl⟩⟩
    · exact .inr ⟨b, List.mem_filter.2 ⟨hb, by simpa using ⟨h1, h2⟩⟩, rfl⟩

/-- The pairs that were found, and the arcs that were made. -/
structure PSt where
  ord : List (Int × Int)
  arcs : List Arc
noncomputable def addO (l : List (Int × Int)) (x : Int × Int) : List (Int × Int) := if x ∈ l then l else l ++ [x]
noncomputable def stepO (i : Nat) (st : PSt) (s : PStep) : PSt := ⟨addO st.ord s.dst, st.arcs ++ [⟨i, s.inp, s.out, ((addO st.ord s.dst).idxOf s.dst : Nat)⟩]⟩
noncomputable def rowO (m n : List Arc) (i : Nat) (st : PSt) : PSt := match st.ord[i]? with
  | some x => (stepsL m n x).foldl (stepO i) st
  | none => st
noncomputable def runO (m n : List Arc) : Nat → Nat → PSt → PSt
  | 0, _, st => st
  | f + 1, i, st => if i < st.ord.length then runO m n f (i + 1) (rowO m n i st) else st
/-- All pairs, and their arcs; 4000 pairs are followed at most. -/
noncomputable def composeO (M N : Mach) : PSt := runO M.arcs N.arcs 4000 0 ⟨[(M.start, N.start)], []⟩

/-- One list begins another one. -/
theorem addO_prefix (l : List (Int × Int)) (x : Int × Int) : l <+: addO l x := by
  unfold addO
  split
  · exact List.prefix_refl _
  · exact List.prefix_append _ _
theorem mem_addO {l : List (Int × Int)} {x : Int × Int} : x ∈ addO l x := by
  unfold addO
  split
  · assumption
  · simp
theorem nodup_addO {l : List (Int × Int)} (h : l.Nodup) (x : Int × Int) : (addO l x).Nodup := by
  unfold addO
  split
  · exact h
  · rename_i hx
    exact List.nodup_append.2 ⟨h, by simp, fun a ha b hb e => by
      obtain rfl : b = x := by simpa using hb
      exact hx (e ▸ ha)⟩
theorem idx_get {l : List (Int × Int)} {x : Int × Int} (h : x ∈ l) : l[l.idxOf x]? = some x := by
  have := List.idxOf_lt_length_of_mem h
  rw [List.getElem?_eq_getElem this]
  simp
theorem get_prefix {l l' : List (Int × Int)} (h : l <+: l') {i : Nat} {x : Int × Int} (hi : l[i]? = some x) : l'[i]? = some x := by
  obtain ⟨t, rfl⟩ := h
  rw [List.getElem?_append_left (List.getElem?_eq_some_iff.1 hi).1]
  exact hi

/-- What is known when the pairs below i were followed, and of the next one the steps in pre. -/
structure CmpInv (M N : Mach) (i : Nat) (pre : List PStep) (st : PSt) : Prop where
  nodup : st.ord.Nodup
  start : st.ord[0]? = some (M.start, N.start)
  arcs : ∀ a, a ∈ st.arcs ↔ ∃ (k : Nat) (x : Int × Int) (s : PStep) (j : Nat), st.ord[k]? = some x ∧ ((k < i ∧ StepOf M.arcs N.arcs x s) ∨ (k = i ∧ s ∈ pre)) ∧ st.ord[j]? = some s.dst ∧ a = ⟨k, s.inp, s.out, j⟩
  closed : ∀ (k : Nat) (x : Int × Int) (s : PStep), st.ord[k]? = some x → ((k < i ∧ StepOf M.arcs N.arcs x s) ∨ (k = i ∧ s ∈ pre)) → s.dst ∈ st.ord
theorem CmpInv.first (M N : Mach) : CmpInv M N 0 [] ⟨[(M.start, N.start)], []⟩ :=
  ⟨by simp, rfl, fun a => by simp, fun k x s _ h => by rcases h with ⟨h, _⟩ | ⟨_, h⟩; exact absurd h (Nat.not_lt_zero _); simp at h⟩
theorem nodup_get {l : List (Int × Int)} (h : l.Nodup) {i j : Nat} {x : Int × Int} (hi : l[i]? = some x) (hj : l[j]? = some x) : i = j := by
  obtain ⟨h1, e1⟩ := List.getElem?_eq_some_iff.1 hi
  obtain ⟨h2, e2⟩ := List.getElem?_eq_some_iff.1 hj
  rcases Nat.lt_trichotomy i j with h3 | h3 | h3
  · exact absurd (e1.trans e2.symm) (List.pairwise_iff_getElem.1 h i j h1 h2 h3)
  · exact h3
  · exact absurd (e2.trans e1.symm) (List.pairwise_iff_getElem.1 h j i h2 h1 h3)
theorem CmpInv.step {M N : Mach} {i : Nat} {pre : List PStep} {st : PSt} (h : CmpInv M N i pre st) {x : Int × Int} (hx : st.ord[i]? = some x) (s : PStep) : CmpInv M N i (pre ++ [s]) (stepO i st s) := by
  have hp := addO_prefix st.ord s.dst
  have hn := nodup_addO h.nodup s.dst
  have hs : (addO st.ord s.dst)[(addO st.ord s.dst).idxOf s.dst]? = some s.dst := idx_get mem_addO
  -- what was among the first pairs stays there
  have back : ∀ (k : Nat) (y : Int × Int), k ≤ i → (addO st.ord s.dst)[k]? = some y → st.ord[k]? = some y := fun k y hk hy => by
    have hi := (List.getElem?_eq_some_iff.1 hx).1
    have h1 : st.ord[k]? = some (st.ord[k]'(by omega)) := List.getElem?_eq_getElem (by omega)
    rw [get_prefix hp h1] at hy
    rw [h1, hy]
  refine ⟨hn, get_prefix hp h.start, fun a => ?_, fun k y t hk ht => ?_⟩
  · show a ∈ st.arcs ++ [_] ↔ _
    rw [List.mem_append, List.mem_singleton]
    constructor
    · rintro (ha | rfl)
      · obtain ⟨k, y, t, j, h1, h2, h3, h4⟩ := (h.arcs a).1 ha
        refine ⟨k, y, t, j, get_prefix hp h1, ?_, get_prefix hp h3, h4⟩
        rcases h2 with h2 | ⟨h2, h5⟩
        · exact .inl h2
        · exact .inr ⟨h2, List.mem_append.2 (.inl h5)⟩
      · exact ⟨i, x, s, _, get_prefix hp hx, .inr ⟨rfl, by simp⟩, hs, rfl⟩
    · rintro ⟨k, y, t, j, h1, h2, h3, rfl⟩
      have hk : k ≤ i := by rcases h2 with ⟨h2, _⟩ | ⟨h2, _⟩ <;> omega
      have h1' := back k y hk h1
      have old : ((k < i ∧ StepOf M.arcs N.arcs y t) ∨ (k = i ∧ t ∈ pre)) → (⟨k, t.inp, t.out, j⟩ : Arc) ∈ st.arcs := fun h5 => by
        have hm := h.closed k y t h1' h5
        have hj := idx_get hm
        have e := nodup_get hn h3 (get_prefix hp hj)
        rw [e]
        exact (h.arcs _).2 ⟨k, y, t, _, h1', h5, hj, rfl⟩
      rcases h2 with h2 | ⟨h2, h5⟩
      · exact .inl (old (.inl h2))
      · rcases List.mem_append.1 h5 with h5 | h5
        · exact .inl (old (.inr ⟨h2, h5⟩))
        · obtain rfl : t = s := by simpa using h5
          right
          rw [h2, nodup_get hn h3 hs]
  · have hki : k ≤ i := by rcases ht with ⟨h2, _⟩ | ⟨h2, _⟩ <;> omega
    have hk' := back k y hki hk
    rcases ht with h2 | ⟨h2, h5⟩
    · exact hp.subset (h.closed k y t hk' (.inl h2))
    · rcases List.mem_append.1 h5 with h5 | h5
      · exact hp.subset (h.closed k y t hk' (.inr ⟨h2, h5⟩))
      · obtain rfl : t = s := by simpa using h5
        exact mem_addO
theorem stepO_get {st : PSt} {i : Nat} {x : Int × Int} (hx : st.ord[i]? = some x) (j : Nat) (s : PStep) : (stepO j st s).ord[i]? = some x := get_prefix (addO_prefix _ _) hx
theorem CmpInv.steps {M N : Mach} {i : Nat} {x : Int × Int} : ∀ (l pre : List PStep) (st : PSt), CmpInv M N i pre st → st.ord[i]? = some x → CmpInv M N i (pre ++ l) (l.foldl (stepO i) st) ∧ (l.foldl (stepO i) st).ord[i]? = some x
  | [], pre, st, h, hx => by simpa using ⟨h, hx⟩
  | s :: l, pre, st, h, hx => by
    have := CmpInv.steps l (pre ++ [s]) (stepO i st s) (h.step hx s) (stepO_get hx i s)
    simpa [List.append_assoc] using this
theorem CmpInv.row {M N : Mach} {i : Nat} {st : PSt} (h : CmpInv M N i [] st) (hi : i < st.ord.length) : CmpInv M N (i + 1) [] (rowO M.arcs N.arcs i st) := by
  have hx : st.ord[i]? = some st.ord[i] := List.getElem?_eq_getElem hi
  obtain ⟨h1, h2⟩ := CmpInv.steps (stepsL M.arcs N.arcs st.ord[i]) [] st h hx
  unfold rowO
  rw [hx]
  rw [List.nil_append] at h1
  simp only
  have key : ∀ (k : Nat) (y : Int × Int) (s : PStep), ((stepsL M.arcs N.arcs st.ord[i]).foldl (stepO i) st).ord[k]? = some y → (((k < i ∧ StepOf M.arcs N.arcs y s) ∨ (k = i ∧ s ∈ stepsL M.arcs N.arcs st.ord[i])) ↔ ((k < i + 1 ∧ StepOf M.arcs N.arcs y s) ∨ (k = i + 1 ∧ s ∈ ([] : List PStep)))) := fun k y s hk => by
    constructor
    · rintro (⟨h3, h4⟩ | ⟨h3, h4⟩)
      · exact .inl ⟨by omega, h4⟩
      · subst h3
        rw [h2] at hk
        cases hk
        exact .inl ⟨by omega, mem_stepsL.1 h4⟩
    · rintro (⟨h3, h4⟩ | ⟨_, h4⟩)
      · rcases Nat.lt_succ_iff_lt_or_eq.1 h3 with h5 | h5
        · exact .inl ⟨h5, h4⟩
        · subst h5
          rw [h2] at hk
          cases hk
          exact .inr ⟨rfl, mem_stepsL.2 h4⟩
      · simp at h4
  refine ⟨h1.nodup, h1.start, fun a => ?_, fun k y s hk hs => h1.closed k y s hk ((key k y s hk).2 hs)⟩
  rw [h1.arcs a]
  constructor
  · rintro ⟨k, y, s, j, q1, q2, q3, q4⟩; exact ⟨k, y, s, j, q1, (key k y s q1).1 q2, q3, q4⟩
  · rintro ⟨k, y, s, j, q1, q2, q3, q4⟩; exact ⟨k, y, s, j, q1, (key k y s q1).2 q2, q3, q4⟩
theorem CmpInv.run {M N : Mach} : ∀ (f i : Nat) (st : PSt), CmpInv M N i [] st → ∃ k, i ≤ k ∧ k ≤ i + f ∧ CmpInv M N k [] (runO M.arcs N.arcs f i st) ∧ ((runO M.arcs N.arcs f i st).ord.length ≤ k ∨ k = i + f)
  | 0, i, st, h => ⟨i, Nat.le_refl _, Nat.le_refl _, h, .inr rfl⟩
  | f + 1, i, st, h => by
    unfold runO
    split
    · rename_i hi
      obtain ⟨k, h1, h2, h3, h4⟩ := CmpInv.run f (i + 1) (rowO M.arcs N.arcs i st) (h.row hi)
      exact ⟨k, by omega, by omega, h3, by rcases h4 with h4 | h4; exact .inl h4; exact .inr (by omega)⟩
    · rename_i hi
      exact ⟨i, Nat.le_refl _, by omega, h, .inl (by omega)⟩

/-- A composition that was followed to its end. -/
structure CompOf (M N : Mach) (ord : List (Int × Int)) (arcs : List Arc) : Prop where
  nodup : ord.Nodup
  start : ord[0]? = some (M.start, N.start)
  arcs : ∀ a, a ∈ arcs ↔ ∃ (k : Nat) (x : Int × Int) (s : PStep) (j : Nat), ord[k]? = some x ∧ StepOf M.arcs N.arcs x s ∧ ord[j]? = some s.dst ∧ a = ⟨k, s.inp, s.out, j⟩
  closed : ∀ (k : Nat) (x : Int × Int) (s : PStep), ord[k]? = some x → StepOf M.arcs N.arcs x s → s.dst ∈ ord
theorem comp_of {M N : Mach} (h : (composeO M N).ord.length ≤ 4000) : CompOf M N (composeO M N).ord (composeO M N).arcs := by
  obtain ⟨k, _, h2, h3, h4⟩ := CmpInv.run 4000 0 ⟨[(M.start, N.start)], []⟩ (CmpInv.first M N)
  have hk : (composeO M N).ord.length ≤ k := by
    rcases h4 with h4 | h4
    · exact h4
    · rw [h4]; simpa using h
  have lt : ∀ (i : Nat) (x : Int × Int), (composeO M N).ord[i]? = some x → i < k := fun i x hi => Nat.lt_of_lt_of_le (List.getElem?_eq_some_iff.1 hi).1 hk
  refine ⟨h3.nodup, h3.start, fun a => ?_, fun i x s hi hs => h3.closed i x s hi (.inl ⟨lt i x hi, hs⟩)⟩
  rw [show (composeO M N).arcs = (runO M.arcs N.arcs 4000 0 ⟨[(M.start, N.start)], []⟩).arcs from rfl, h3.arcs a]
  constructor
  · rintro ⟨i, x, s, j, q1, q2, q3, q4⟩
    rcases q2 with ⟨_, q2⟩ | ⟨_, q2⟩
    · exact ⟨i, x, s, j, q1, q2, q3, q4⟩
    · simp at q2
  · rintro ⟨i, x, s, j, q1, q2, q3, q4⟩
    exact ⟨i, x, s, j, q1, .inl ⟨lt i x q1, q2⟩, q3, q4⟩

/-- The pair behind a way of the composition, and the ways of both machines. -/
theorem comp_ways {M N : Mach} {ord : List (Int × Int)} {arcs l : List Arc} (h : CompOf M N ord arcs) (hl : ∀ a, a ∈ l ↔ a ∈ arcs) {x y : List UInt8} {t : Int} (k : Walk l 0 x y t) :
    ∃ (j : Nat) (z : Int × Int) (u : List UInt8), t = j ∧ ord[j]? = some z ∧ Walk M.arcs M.start x u z.1 ∧ Walk N.arcs N.start u y z.2 := by
  induction k with
  | nil => exact ⟨0, _, [], rfl, h.start, .nil, .nil⟩
  | @snoc x y a _ ha ih =>
    obtain ⟨j, z, u, h1, h2, h3, h4⟩ := ih
    obtain ⟨i, z', s, j', q1, q2, q3, rfl⟩ := (h.arcs a).1 ((hl a).1 ha)
    have e : i = j := by simp at h1; omega
    subst e
    rw [q1] at h2
    cases h2
    rcases q2 with ⟨b, hb, e1, e2, rfl⟩ | ⟨b, hb, c, hc, e1, e2, e3, e4, rfl⟩ | ⟨c, hc, e1, e2, rfl⟩
    · refine ⟨j', _, u, rfl, q3, ?_, ?_⟩
      · have := Walk.snoc (a := b) (by rw [e1]; exact h3) hb
        rw [e2, symb_zero, List.append_nil] at this
        exact this
      · simpa [symb_zero] using h4
    · refine ⟨j', _, u ++ symb b.out, rfl, q3, ?_, ?_⟩
      · exact Walk.snoc (a := b) (by rw [e1]; exact h3) hb
      · have := Walk.snoc (a := c) (by rw [e3]; exact h4) hc
        rw [e4] at this
        exact this
    · refine ⟨j', _, u, rfl, q3, ?_, ?_⟩
      · simpa [symb_zero] using h3
      · have := Walk.snoc (a := c) (by rw [e1]; exact h4) hc
        rw [e2, symb_zero, List.append_nil] at this
        exact this
theorem comp_arc {M N : Mach} {ord : List (Int × Int)} {arcs l : List Arc} (h : CompOf M N ord arcs) (hl : ∀ a, a ∈ l ↔ a ∈ arcs) {x y : List UInt8} {j : Nat} {z : Int × Int} (k : Walk l 0 x y (j : Int)) (hz : ord[j]? = some z) {s : PStep} (hs : StepOf M.arcs N.arcs z s) :
    ∃ j' : Nat, ord[j']? = some s.dst ∧ Walk l 0 (x ++ symb s.inp) (y ++ symb s.out) (j' : Int) := by
  have hm := h.closed j z s hz hs
  refine ⟨_, idx_get hm, ?_⟩
  exact k.more ((hl _).2 ((h.arcs _).2 ⟨j, z, s, _, hz, hs, idx_get hm, rfl⟩)) rfl rfl
theorem symb_one {c : Int} (h0 : c ≠ 0) : symb c = [c.toNat.toUInt8] := by unfold symb; rw [if_neg h0]
theorem symb_inj {c d : Int} (hc : SymOk c) (hd : SymOk d) (c0 : c ≠ 0) (d0 : d ≠ 0) (e : symb c = symb d) : c = d := by
  rw [symb_one c0, symb_one d0] at e
  have e1 : c.toNat.toUInt8 = d.toNat.toUInt8 := by simpa using e
  have h1 := (sym_byte hc c0).2
  have h2 := (sym_byte hd d0).2
  rw [e1] at h1
  omega
/-- Ways of both machines that agree on the text between them make a way of the composition. -/
theorem ways_comp {M N : Mach} (hM : ValidM M) (hN : ValidM N) {ord : List (Int × Int)} {arcs l : List Arc} (h : CompOf M N ord arcs) (hl : ∀ a, a ∈ l ↔ a ∈ arcs) {x u : List UInt8} {p : Int} (k : Walk M.arcs M.start x u p) :
    ∀ (v y : List UInt8) (q : Int), Walk N.arcs N.start v y q → v = u → ∃ j : Nat, ord[j]? = some (p, q) ∧ Walk l 0 x y (j : Int) := by
  induction k with
  | nil =>
    intro v y q k2
    induction k2 with
    | nil => intro _; exact ⟨0, h.start, .nil⟩
    | @snoc v y b _ hb ih =>
      intro e
      obtain ⟨e1, e2⟩ := List.append_eq_nil_iff.1 e
      have hb0 : b.inp = 0 := by
        rcases Classical.em (b.inp = 0) with h0 | h0
        · exact h0
        · rw [symb_one h0] at e2; simp at e2
      obtain ⟨j, hj, hw⟩ := ih e1
      obtain ⟨j', hj', hw'⟩ := comp_arc h hl hw hj (s := ⟨0, b.out, (M.start, b.to)⟩) (.inr (.inr ⟨b, hb, rfl, hb0, rfl⟩))
      exact ⟨j', hj', by simpa [symb_zero] using hw'⟩
  | @snoc x u a _ ha ih =>
    by_cases h0 : a.out = 0
    · intro v y q k2 e
      rw [h0, symb_zero, List.append_nil] at e
      obtain ⟨j, hj, hw⟩ := ih _ _ _ k2 e
      obtain ⟨j', hj', hw'⟩ := comp_arc h hl hw hj (s := ⟨a.inp, 0, (a.to, q)⟩) (.inl ⟨a, ha, rfl, h0, rfl⟩)
      exact ⟨j', hj', by simpa [symb_zero] using hw'⟩
    · intro v y q k2
      have hs := symb_one h0
      induction k2 with
      | nil =>
        intro e
        rw [hs] at e
        simp at e
      | @snoc v y b k3 hb ih2 =>
        intro e
        by_cases hb0 : b.inp = 0
        · rw [hb0, symb_zero, List.append_nil] at e
          obtain ⟨j, hj, hw⟩ := ih2 e
          obtain ⟨j', hj', hw'⟩ := comp_arc h hl hw hj (s := ⟨0, b.out, (a.to, b.to)⟩) (.inr (.inr ⟨b, hb, rfl, hb0, rfl⟩))
          exact ⟨j', hj', by simpa [symb_zero] using hw'⟩
        · have hs2 := symb_one hb0
          have e3 : v = u ∧ symb b.inp = symb a.out := by
            rw [hs, hs2] at e ⊢
            have := List.append_inj' e rfl
            exact this
          obtain ⟨j, hj, hw⟩ := ih _ _ _ k3 e3.1
          obtain ⟨j', hj', hw'⟩ := comp_arc h hl hw hj (s := ⟨a.inp, b.out, (a.to, b.to)⟩) (.inr (.inl ⟨a, ha, b, hb, rfl, h0, rfl, symb_inj (hN.arcs b hb).2.2.1 (hM.arcs a ha).2.2.2 hb0 h0 e3.2, rfl⟩))
          exact ⟨j', hj', hw'⟩

/-- What composing makes before it is trimmed. -/
structure CompM (M N C : Mach) (ord : List (Int × Int)) (arcs : List Arc) : Prop where
  comp : CompOf M N ord arcs
  states : C.states = (ord.length : Nat)
  start : C.start = 0
  final : ∀ s : Int, s ∈ C.final ↔ ∃ (j : Nat) (z : Int × Int), s = j ∧ ord[j]? = some z ∧ z.1 ∈ M.final ∧ z.2 ∈ N.final
  inc : C.final.Pairwise (· < ·)
  arcsInc : Increasing C.arcs
  mem : ∀ a, a ∈ C.arcs ↔ a ∈ arcs
section
variable {M N C : Mach} {ord : List (Int × Int)} {arcs : List Arc}
theorem StepOf.syms (hM : ValidM M) (hN : ValidM N) {z : Int × Int} {s : PStep} (h : StepOf M.arcs N.arcs z s) : SymOk s.inp ∧ SymOk s.out := by
  rcases h with ⟨a, ha, _, _, rfl⟩ | ⟨a, ha, b, hb, _, _, _, _, rfl⟩ | ⟨b, hb, _, _, rfl⟩
  · exact ⟨(hM.arcs a ha).2.2.1, .inl rfl⟩
  · exact ⟨(hM.arcs a ha).2.2.1, (hN.arcs b hb).2.2.2⟩
  · exact ⟨.inl rfl, (hN.arcs b hb).2.2.2⟩
theorem CompM.syms (h : CompM M N C ord arcs) (hM : ValidM M) (hN : ValidM N) : ∀ a ∈ C.arcs, SymOk a.inp ∧ SymOk a.out := by
  intro a ha
  obtain ⟨_, z, s, _, _, h2, _, rfl⟩ := (h.comp.arcs a).1 ((h.mem a).1 ha)
  exact h2.syms hM hN
/-- The results of a composition are the results, for the second machine, of those for the first one. -/
theorem CompM.result (h : CompM M N C ord arcs) (hM : ValidM M) (hN : ValidM N) {x : List UInt8} {t : ByteArray} : Result C x t ↔ ∃ u : ByteArray, Result M x u ∧ Result N (bl u) t := by
  rw [result_iff (fun a ha => (h.syms hM hN a ha).1)]
  constructor
  · rintro ⟨s, hs, hw⟩
    obtain ⟨j, z, rfl, h1, h2, h3⟩ := (h.final s).1 hs
    rw [h.start] at hw
    obtain ⟨j', z', u, e, q1, q2, q3⟩ := comp_ways h.comp h.mem hw
    have e' : j = j' := by omega
    subst e'
    rw [h1] at q1
    cases q1
    refine ⟨⟨u.toArray⟩, (result_iff (fun a ha => (hM.arcs a ha).2.2.1)).2 ⟨z.1, h2, ?_⟩, (result_iff (fun a ha => (hN.arcs a ha).2.2.1)).2 ⟨z.2, h3, ?_⟩⟩
    · rw [show bl (⟨u.toArray⟩ : ByteArray) = u from by simp [bl]]; exact q2
    · rw [show bl (⟨u.toArray⟩ : ByteArray) = u from by simp [bl]]; exact q3
  · rintro ⟨u, h1, h2⟩
    obtain ⟨p, hp, w1⟩ := (result_iff (fun a ha => (hM.arcs a ha).2.2.1)).1 h1
    obtain ⟨q, hq, w2⟩ := (result_iff (fun a ha => (hN.arcs a ha).2.2.1)).1 h2
    obtain ⟨j, hj, hw⟩ := ways_comp hM hN h.comp h.mem w1 _ _ _ w2 rfl
    exact ⟨j, (h.final _).2 ⟨j, _, rfl, hj, hp, hq⟩, by rw [h.start]; exact hw⟩
theorem CompM.valid (h : CompM M N C ord arcs) (hM : ValidM M) (hN : ValidM N) (hs : ord.length ≤ 4000) (ha : C.arcs.length ≤ 20000) : ValidM C := by
  have h0 : 0 < ord.length := (List.getElem?_eq_some_iff.1 h.comp.start).1
  have hst := h.states
  refine ⟨by omega, by omega, by rw [h.start, hst]; exact ⟨by omega, by omega⟩, ha, fun s hs' => ?_, h.inc, fun a ha' => ?_, h.arcsInc⟩
  · obtain ⟨j, z, rfl, h1, _⟩ := (h.final s).1 hs'
    have := (List.getElem?_eq_some_iff.1 h1).1
    rw [hst]
    exact ⟨by omega, by omega⟩
  · obtain ⟨h3, h4⟩ := h.syms hM hN a ha'
    obtain ⟨k, z, s, j, q1, _, q3, rfl⟩ := (h.comp.arcs a).1 ((h.mem a).1 ha')
    have h1 := (List.getElem?_eq_some_iff.1 q1).1
    have h2 := (List.getElem?_eq_some_iff.1 q3).1
    rw [hst]
    exact ⟨⟨by show (0 : Int) ≤ (k : Int); omega, by show (k : Int) < (ord.length : Nat); omega⟩, ⟨by show (0 : Int) ≤ (j : Int); omega, by show (j : Int) < (ord.length : Nat); omega⟩, h3, h4⟩
/-- A circle of a composition is one of one of both machines. -/
theorem CompM.circle (h : CompM M N C ord arcs) (hc : Circle C) : Circle M ∨ Circle N := by
  have one : ∀ a b, Ed C a b → ∃ (i j : Nat) (x y : Int × Int), a = i ∧ b = j ∧ ord[i]? = some x ∧ ord[j]? = some y ∧ (Ed M x.1 y.1 ∨ (x.1 = y.1 ∧ Ed N x.2 y.2)) := fun a b hab => by
    obtain ⟨c, hc, rfl⟩ := hab
    obtain ⟨h1, h2, h3⟩ := mem_runA.1 hc
    obtain ⟨k, z, s, j, q1, q2, q3, rfl⟩ := (h.comp.arcs c).1 ((h.mem c).1 h1)
    refine ⟨k, j, z, s.dst, h2.symm, rfl, q1, q3, ?_⟩
    have h3' : s.inp = 0 := h3
    rcases q2 with ⟨a, ha, e1, _, rfl⟩ | ⟨a, ha, b, hb, e1, _, _, _, rfl⟩ | ⟨b, hb, e1, e2, rfl⟩
    · exact .inl ⟨a, mem_runA.2 ⟨ha, e1, h3'⟩, rfl⟩
    · exact .inl ⟨a, mem_runA.2 ⟨ha, e1, h3'⟩, rfl⟩
    · exact .inr ⟨rfl, b, mem_runA.2 ⟨hb, e1, e2⟩, rfl⟩
  have way : ∀ a b, Way (Ed C) a b → ∃ (i j : Nat) (x y : Int × Int), a = i ∧ b = j ∧ ord[i]? = some x ∧ ord[j]? = some y ∧ (Way (Ed M) x.1 y.1 ∨ (x.1 = y.1 ∧ Way (Ed N) x.2 y.2)) := fun a b hab => by
    induction hab with
    | one h1 =>
      obtain ⟨i, j, x, y, e1, e2, q1, q2, q3⟩ := one _ _ h1
      exact ⟨i, j, x, y, e1, e2, q1, q2, by rcases q3 with q3 | ⟨q3, q4⟩; exact .inl (.one q3); exact .inr ⟨q3, .one q4⟩⟩
    | more _ h1 ih =>
      obtain ⟨i, j, x, y, e1, e2, q1, q2, q3⟩ := ih
      obtain ⟨i', j', x', y', e1', e2', q1', q2', q3'⟩ := one _ _ h1
      have e : j = i' := by omega
      subst e
      rw [q2] at q1'
      cases q1'
      refine ⟨i, j', x, y', e1, e2', q1, q2', ?_⟩
      rcases q3 with q3 | ⟨q3, q4⟩ <;> rcases q3' with q3' | ⟨q3', q4'⟩
      · exact .inl (q3.more q3')
      · exact .inl (q3' ▸ q3)
      · exact .inl (.one (q3 ▸ q3'))
      · exact .inr ⟨q3.trans q3', q4.more q4'⟩
  obtain ⟨s, hs⟩ := hc
  obtain ⟨i, j, x, y, e1, e2, q1, q2, q3⟩ := way s s hs
  have e : i = j := by omega
  subst e
  rw [q1] at q2
  cases q2
  rcases q3 with q3 | ⟨_, q3⟩
  · exact .inl ⟨_, q3⟩
  · exact .inr ⟨_, q3⟩
end

/-- How long the results of a small machine without silent circles are. -/
theorem walk_len {M : Mach} (hv : ValidM M) (hc : ¬ Circle M) (h8 : M.states ≤ 8) {x y : List UInt8} {s : Int} (k : Walk M.arcs M.start x y s) :
    ∃ L : List Int, L.Nodup ∧ (∀ u ∈ L, StateOk M.states u ∧ WayR (Ed M) u s) ∧ y.length + 1 ≤ 8 * x.length + L.length := by
  have few : ∀ L : List Int, L.Nodup → (∀ u ∈ L, StateOk M.states u) → L.length ≤ 8 := fun L hn hL => by
    have := nodup_len (l := L) (m := (List.range 8).map fun n : Nat => (n : Int)) hn (fun z hz => by
      obtain ⟨a, b⟩ := hL z hz
      exact List.mem_map.2 ⟨z.toNat, List.mem_range.2 (by omega), by omega⟩)
    simpa using this
  induction k with
  | nil => exact ⟨[M.start], by simp, fun u hu => by obtain rfl := List.mem_singleton.1 hu; exact ⟨hv.start, .inl rfl⟩, by simp⟩
  | @snoc x y a _ ha ih =>
    obtain ⟨L, h1, h2, h3⟩ := ih
    have ho := symb_len a.out
    have hl := few L h1 (fun u hu => (h2 u hu).1)
    have hto := (hv.arcs a ha).2.1
    rw [List.length_append, List.length_append]
    by_cases h0 : a.inp = 0
    · have he : Ed M a.frm a.to := ⟨a, mem_runA.2 ⟨ha, rfl, h0⟩, rfl⟩
      have hnot : a.to ∉ L := fun hm => by
        rcases (h2 _ hm).2 with e | hw
        · exact hc ⟨a.to, by rw [← e] at he; exact .one he⟩
        · exact hc ⟨a.to, hw.more he⟩
      refine ⟨a.to :: L, List.nodup_cons.2 ⟨hnot, h1⟩, fun u hu => ?_, ?_⟩
      · rcases List.mem_cons.1 hu with rfl | hu
        · exact ⟨hto, .inl rfl⟩
        · obtain ⟨q1, q2⟩ := h2 u hu
          refine ⟨q1, .inr ?_⟩
          rcases q2 with e | q2
          · rw [e]; exact .one he
          · exact q2.more he
      · rw [h0, symb_zero, List.length_cons]
        simp only [List.length_nil]
        omega
    · have hi : (symb a.inp).length = 1 := by unfold symb; rw [if_neg h0]; rfl
      refine ⟨[a.to], by simp, fun u hu => by obtain rfl := List.mem_singleton.1 hu; exact ⟨hto, .inl rfl⟩, ?_⟩
      simp only [List.length_cons, List.length_nil]
      omega
theorem small_result {M : Mach} (hv : ValidM M) (hc : ¬ Circle M) (h8 : M.states ≤ 8) {x : List UInt8} {t : ByteArray} (h : Result M x t) : t.size ≤ 8 * x.length + 7 := by
  obtain ⟨s, _, hw⟩ := (result_iff (fun a ha => (hv.arcs a ha).2.2.1)).1 h
  obtain ⟨L, h1, h2, h3⟩ := walk_len hv hc h8 hw
  have := nodup_len (l := L) (m := (List.range 8).map fun n : Nat => (n : Int)) h1 (fun z hz => by
    obtain ⟨a, b⟩ := (h2 z hz).1
    exact List.mem_map.2 ⟨z.toNat, List.mem_range.2 (by omega), by omega⟩)
  rw [List.length_map, List.length_range] at this
  rw [bl_length] at h3
  omega
end Go.Proofs.YtgaldlecnfekaaaGreatDoor
