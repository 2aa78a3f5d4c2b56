/- S12 · S10 · S13 -/
import GoSem.Core.Value
/- Plain words on arcs and machines: their order, strictly increasing lists. No program in sight. -/
namespace Go.Proofs.YtabocamjaecaaaaGreatDoor
open Go

structure Arc where
 frm : Int
 inp : Int
 out : Int
 to : Int
instance : DecidableEq Arc := fun a b =>
 if h : a.frm = b.frm ∧ a.inp = b.inp ∧ a.out = b.out ∧ a.to = b.to then
  .isTrue (by obtain ⟨h1, h2, h3, h4⟩ := h; cases a; cases b; simp only at h1 h2 h3 h4; subst h1 h2 h3 h4; rfl)
 else .isFalse (fun e => h (by subst e; exact ⟨rfl, rfl, rfl, rfl⟩))

def Arc.lt (a b : Arc) : Prop := a.frm < b.frm ∨ a.frm = b.frm ∧ (a.inp < b.inp ∨ a.inp = b.inp ∧ (a.out < b.out ∨ a.out = b.out ∧ a.to < b.to))
theorem Arc.lt_irrefl (a : Arc) : ¬ a.lt a := by unfold Arc.lt; omega
theorem Arc.lt_trans {a b c : Arc} (h : a.lt b) (h' : b.lt c) : a.lt c := by unfold Arc.lt at *; omega
theorem Arc.lt_asymm {a b : Arc} (h : a.lt b) : ¬ b.lt a := by unfold Arc.lt at *; omega
theorem Arc.eq_of_not_lt {a b : Arc} (h : ¬ a.lt b) (h' : ¬ b.lt a) : a = b := by
 obtain ⟨a1, a2, a3, a4⟩ := a
 obtain ⟨b1, b2, b3, b4⟩ := b
 simp only [Arc.lt] at h h'
 simp only [Arc.mk.injEq]
 omega

def Increasing (l : List Arc) : Prop := l.Pairwise Arc.lt

theorem Increasing.ext {l m : List Arc} (hl : Increasing l) (hm : Increasing m) (h : ∀ x, x ∈ l ↔ x ∈ m) : l = m := by
 induction l generalizing m with
 | nil =>
  cases m with
  | nil => rfl
  | cons b m => exact absurd ((h b).2 (by simp)) (by simp)
 | cons a l ih =>
  cases m with
  | nil => exact absurd ((h a).1 (by simp)) (by simp)
  | cons b m =>
   obtain ⟨ha, hl'⟩ := List.pairwise_cons.1 hl
   obtain ⟨hb, hm'⟩ := List.pairwise_cons.1 hm
   have hab : a = b := by
    rcases List.mem_cons.1 ((h a).1 (by simp)) with e | h1
    ·exact e
    ·rcases List.mem_cons.1 ((h b).2 (by simp)) with e | h2
     ·exact e.symm
     ·exact absurd (hb _ h1) (Arc.lt_asymm (ha _ h2))
   subst hab
   refine congrArg (a :: ·) (ih hl' hm' (fun x => ?_))
   constructor
   ·intro hx
    rcases List.mem_cons.1 ((h x).1 (List.mem_cons_of_mem _ hx)) with rfl | h1
    ·exact absurd (ha _ hx) (Arc.lt_irrefl _)
    ·exact h1
   ·intro hx
    rcases List.mem_cons.1 ((h x).2 (List.mem_cons_of_mem _ hx)) with rfl | h1
    ·exact absurd (hb _ hx) (Arc.lt_irrefl _)
    ·exact h1

theorem Increasing.nodup {l : List Arc} (h : Increasing l) : l.Nodup := by
 unfold Increasing at h
 exact h.imp fun hab e => by subst e; exact Arc.lt_irrefl _ hab

/-- Putting x at its place: everything from k on is greater, what stands before k is less. -/
theorem Increasing.put {S : List Arc} (h : Increasing S) (x : Arc) (k : Nat) (hk : k ≤ S.length) (hgt : ∀ j y, k ≤ j → S[j]? = some y → x.lt y) (hle : ∀ y, 0 < k → S[k - 1]? = some y → y.lt x) :
  Increasing (S.take k ++ x :: S.drop k) := by
 refine List.pairwise_append.2 ⟨h.sublist (List.take_sublist _ _), List.pairwise_cons.2 ⟨fun y hy => ?_, h.sublist (List.drop_sublist _ _)⟩, fun a ha b hb => ?_⟩
 ·obtain ⟨i, hi⟩ := List.mem_iff_getElem?.1 hy
  rw [List.getElem?_drop] at hi
  exact hgt _ _ (by omega) hi
 ·obtain ⟨i, hi⟩ := List.mem_iff_getElem?.1 ha
  rw [List.getElem?_take] at hi
  split at hi
  ·rename_i hik
   have hax : a.lt x := by
    have hk1 : k - 1 < S.length := by omega
    have hlast := hle S[k - 1] (by omega) (List.getElem?_eq_getElem hk1)
    rcases Nat.lt_or_ge i (k - 1) with h1 | h1
    ·obtain ⟨hi', rfl⟩ := List.getElem?_eq_some_iff.1 hi
     exact Arc.lt_trans (List.pairwise_iff_getElem.1 h i (k - 1) hi' hk1 h1) hlast
    ·have e : i = k - 1 := by omega
     subst e
     rw [List.getElem?_eq_getElem hk1] at hi
     obtain rfl := Option.some.inj hi
     exact hlast
   rcases List.mem_cons.1 hb with rfl | hb
   ·exact hax
   ·obtain ⟨j, hj⟩ := List.mem_iff_getElem?.1 hb
    rw [List.getElem?_drop] at hj
    exact Arc.lt_trans hax (hgt _ _ (by omega) hj)
  ·cases hi

def Arc.cells (a : Arc) : List Value := [.int .i64 a.frm, .int .i64 a.inp, .int .i64 a.out, .int .i64 a.to]
def flat (l : List Arc) : List Value := l.flatMap Arc.cells
theorem flat_append (a b : List Arc) : flat (a ++ b) = flat a ++ flat b := by simp [flat]
theorem flat_cons (x : Arc) (l : List Arc) : flat (x :: l) = .int .i64 x.frm :: .int .i64 x.inp :: .int .i64 x.out :: .int .i64 x.to :: flat l := by simp [flat, Arc.cells]
theorem flat_length (l : List Arc) : (flat l).length = l.length * 4 := by
 induction l with
 | nil => rfl
 | cons x l ih => rw [flat_cons]; simp [ih]; omega
theorem flat_get (l : List Arc) (i : Nat) (x : Arc) (h : l[i]? = some x) : (flat l)[i * 4]? = some (.int .i64 x.frm) ∧ (flat l)[i * 4 + 1]? = some (.int .i64 x.inp) ∧ (flat l)[i * 4 + 2]? = some (.int .i64 x.out) ∧ (flat l)[i * 4 + 3]? = some (.int .i64 x.to) := by
 induction l generalizing i with
 | nil => simp at h
 | cons y l ih =>
  cases i with
  | zero => simp at h; subst h; simp [flat_cons]
  | succ i =>
   rw [List.getElem?_cons_succ] at h
   have := ih i h
   rw [flat_cons, show (i + 1) * 4 = i * 4 + 4 from by omega]
   simpa using this
end Go.Proofs.YtabocamjaecaaaaGreatDoor

/- Plain words on alphabets: which texts can begin letters, the longest letter, the letters of a text. No program in sight. -/
namespace Go.Proofs.YtabocamjaecaaaaGreatDoor

/-- Letters of L, one after the other, can begin with s. -/
def FollowsN (L : List (List UInt8)) : Nat → List UInt8 → Prop
 | 0, _ => False
 | n + 1, s => ∃ l ∈ L, s <+: l ∨ ∃ r, s = l ++ r ∧ FollowsN L n r
def Follows (L : List (List UInt8)) (s : List UInt8) : Prop := ∃ n, FollowsN L n s

theorem follows_iff (L : List (List UInt8)) (s : List UInt8) : Follows L s ↔ ∃ l ∈ L, s <+: l ∨ ∃ r, s = l ++ r ∧ Follows L r := by
 constructor
 ·rintro ⟨n, h⟩
  cases n with
  | zero => exact h.elim
  | succ n =>
   obtain ⟨l, hl, h | ⟨r, e, h⟩⟩ := h
   ·exact ⟨l, hl, .inl h⟩
   ·exact ⟨l, hl, .inr ⟨r, e, n, h⟩⟩
 ·rintro ⟨l, hl, h | ⟨r, e, n, h⟩⟩
  ·exact ⟨1, l, hl, .inl h⟩
  ·exact ⟨n + 1, l, hl, .inr ⟨r, e, h⟩⟩

theorem prefix_drop {l s : List UInt8} (h : l <+: s) : s = l ++ s.drop l.length := by
 obtain ⟨r, rfl⟩ := h; simp

theorem append_of_prefix {l s r : List UInt8} : s = l ++ r ↔ l <+: s ∧ r = s.drop l.length := by
 constructor
 ·rintro rfl; exact ⟨⟨r, rfl⟩, by simp⟩
 ·rintro ⟨h, rfl⟩; exact prefix_drop h

/-- The index of the longest letter of at most n bytes with which t begins. -/
def atN (L : List (List UInt8)) (t : List UInt8) : Nat → Option Nat
 | 0 => none
 | n + 1 => if n + 1 ≤ t.length ∧ t.take (n + 1) ∈ L then some (L.idxOf (t.take (n + 1))) else atN L t n

def atF (L : List (List UInt8)) (t : List UInt8) : Option Nat := atN L t 3
def atI (L : List (List UInt8)) (t : List UInt8) : Int := match atF L t with
 | none => -1
 | some k => k

theorem take_of_prefix {l t : List UInt8} (h : l <+: t) : t.take l.length = l := by
 obtain ⟨r, rfl⟩ := h; simp

theorem atN_none (L : List (List UInt8)) (t : List UInt8) (n : Nat) (h : ∀ l ∈ L, ¬ l <+: t) : atN L t n = none := by
 induction n with
 | zero => rfl
 | succ n ih => rw [atN, if_neg (fun hh => h _ hh.2 (List.take_prefix _ _)), ih]

theorem idxOf_getElem {L : List (List UInt8)} (hd : L.Nodup) {j : Nat} {l : List UInt8} (h : L[j]? = some l) : L.idxOf l = j := by
 induction L generalizing j with
 | nil => simp at h
 | cons a L ih =>
  cases j with
  | zero => simp at h; subst h; simp
  | succ j =>
   rw [List.getElem?_cons_succ] at h
   have hm : l ∈ L := List.mem_of_getElem? h
   have hne : a ≠ l := fun e => (List.nodup_cons.1 hd).1 (e ▸ hm)
   rw [List.idxOf_cons, show (a == l) = false from by simpa using hne, ih (List.nodup_cons.1 hd).2 h]; rfl

theorem atN_best (L : List (List UInt8)) (hd : L.Nodup) (t : List UInt8) (j : Nat) (l : List UInt8) (hj : L[j]? = some l) (hp : l <+: t) (hbest : ∀ m ∈ L, m <+: t → m.length ≤ l.length) (h1 : 1 ≤ l.length) :
  ∀ n, l.length ≤ n → atN L t n = some j := by
 intro n
 induction n with
 | zero => intro h; omega
 | succ n ih =>
  intro h
  rw [atN]
  by_cases e : l.length = n + 1
  ·have ht : t.take (n + 1) = l := by rw [← e]; exact take_of_prefix hp
   have hlen : n + 1 ≤ t.length := by rw [← e]; exact hp.length_le
   rw [ht, if_pos ⟨hlen, List.mem_of_getElem? hj⟩, idxOf_getElem hd hj]
  ·rw [if_neg, ih (by omega)]
   rintro ⟨h2, h3⟩
   have := hbest _ h3 (List.take_prefix _ _)
   rw [List.length_take] at this
   omega

theorem atN_some {L : List (List UInt8)} {t : List UInt8} {n k : Nat} (h : atN L t n = some k) : ∃ l, L[k]? = some l ∧ l <+: t ∧ 1 ≤ l.length ∧ l.length ≤ n := by
 induction n with
 | zero => cases h
 | succ n ih =>
  rw [atN] at h
  split at h
  ·rename_i hh
   obtain rfl := Option.some.inj h
   have hlt := List.idxOf_lt_length_of_mem hh.2
   refine ⟨t.take (n + 1), ?_, List.take_prefix _ _, by rw [List.length_take]; omega, by rw [List.length_take]; omega⟩
   rw [List.getElem?_eq_getElem hlt, List.getElem_idxOf]
  ·obtain ⟨l, h1, h2, h3, h4⟩ := ih h
   exact ⟨l, h1, h2, h3, by omega⟩
/-- What reading letters gives: the letters, the error, its offset. -/
structure Rd where
 letters : List Int
 err : Int
 off : Nat

/-- The letters of t, which stands at an offset, behind acc; at most f more. -/
def readGo (L : List (List UInt8)) : Nat → List UInt8 → Nat → List Int → Rd
 | 0, t, o, acc => if t = [] then ⟨acc, 0, 0⟩ else match atF L t with
  | none => ⟨[], 3, o⟩
  | some _ => ⟨[], 2, o⟩
 | f + 1, t, o, acc => if t = [] then ⟨acc, 0, 0⟩ else match atF L t with
  | none => ⟨[], 3, o⟩
  | some k => readGo L f (t.drop ((L[k]?.getD []).length)) (o + (L[k]?.getD []).length) (acc ++ [(k : Int)])

def readL (L : List (List UInt8)) (t : List UInt8) : Rd := if t = [] then ⟨[], 6, 0⟩ else readGo L 24 t 0 []

end Go.Proofs.YtabocamjaecaaaaGreatDoor

/- Plain words on the machine of rules: states and arcs, as chapter 13 has them. No program in sight. -/
namespace Go.Proofs.YtabocamjaecaaaaGreatDoor

/-- A byte of a text, or 0. -/
def byteL (l : List UInt8) (i : Nat) : Int := match l[i]? with
 | some c => c.toNat
 | none => 0

/-- A rule as texts. -/
structure RulL where
 src : List UInt8
 dst : List UInt8
 nxt : List UInt8
 fin : Bool

def RulL.n (x : RulL) : Nat := max x.src.length x.dst.length

/-- The states to which rules lead; s: the next new state. -/
def leadsFrom : Nat → List RulL → List Nat
 | _, [] => []
 | s, x :: r => if x.nxt = [] then (if x.fin then 2 else 1) :: leadsFrom s r else s :: leadsFrom (s + 1) r
/-- How many states follow the contexts. -/
def statesFrom : Nat → List RulL → Nat
 | s, [] => s
 | s, x :: r => if x.nxt = [] then statesFrom s r else statesFrom (s + 1) r

def firstLetter (L : List (List UInt8)) (t : List UInt8) : Int := (readL L t).letters[0]?.getD (-1)
/-- A rule can begin in the context of another one. -/
def begB (L : List (List UInt8)) (x o : RulL) : Bool := (readL L o.nxt).letters.contains (firstLetter L x.src)

/-- The states at which a rule starts in the contexts of others. -/
def startsIn (L : List (List UInt8)) (x : RulL) : List RulL → List Nat → List Nat
 | o :: r, s :: t => if begB L x o then s :: startsIn L x r t else startsIn L x r t
 | _, _ => []

/-- The arcs of a rule: from its starts, then its own way over new states from base on, to lead. -/
def arcTo (x : RulL) (base lead j : Nat) : Int := if j + 1 = x.n then (lead : Int) else (base : Int) + j
def arcAt (x : RulL) (base lead j : Nat) (f : Int) : Arc := ⟨f, byteL x.src j, byteL x.dst j, arcTo x base lead j⟩
def ruleArcs (x : RulL) (base lead : Nat) (starts : List Nat) : List Arc :=
 (starts.map fun s : Nat => arcAt x base lead 0 (s : Int)) ++ (List.range (x.n - 1)).map fun j : Nat => arcAt x base lead (j + 1) ((base : Int) + (j : Int))

/-- The arcs of rules. -/
def arcsFrom (L : List (List UInt8)) (all : List RulL) (leads : List Nat) : Nat → List RulL → List Nat → List Arc
 | base, x :: r, l :: t => ruleArcs x base l (0 :: 1 :: startsIn L x all leads) ++ arcsFrom L all leads (base + x.n - 1) r t
 | _, _, _ => []
/-- How many states there are behind all ways. -/
def endFrom : Nat → List RulL → Nat
 | base, [] => base
 | base, x :: r => endFrom (base + x.n - 1) r

def compileArcs (L : List (List UInt8)) (l : List RulL) : List Arc := arcsFrom L l (leadsFrom 3 l) (statesFrom 3 l) l (leadsFrom 3 l)
def compileStates (l : List RulL) : Nat := endFrom (statesFrom 3 l) l

theorem leadsFrom_length (s : Nat) (l : List RulL) : (leadsFrom s l).length = l.length := by
 induction l generalizing s with
 | nil => rfl
 | cons x r ih => rw [leadsFrom]; split <;> simp [ih]

theorem leadsFrom_snoc (s : Nat) (l : List RulL) (x : RulL) : leadsFrom s (l ++ [x]) = leadsFrom s l ++ [if x.nxt = [] then (if x.fin then 2 else 1) else statesFrom s l] := by
 induction l generalizing s with
 | nil => simp only [List.nil_append, leadsFrom, statesFrom]; split <;> rfl
 | cons y l ih => simp only [List.cons_append, leadsFrom, statesFrom]; split <;> simp [*]
theorem statesFrom_snoc (s : Nat) (l : List RulL) (x : RulL) : statesFrom s (l ++ [x]) = if x.nxt = [] then statesFrom s l else statesFrom s l + 1 := by
 induction l generalizing s with
 | nil => simp only [List.nil_append, statesFrom]
 | cons y l ih => simp only [List.cons_append, statesFrom]; split <;> simp [ih]
theorem statesFrom_le (s : Nat) (l : List RulL) : statesFrom s l ≤ s + l.length := by
 induction l generalizing s with
 | nil => simp [statesFrom]
 | cons y l ih =>
  rw [statesFrom]
  split
  ·have := ih s; simp; omega
  ·have := ih (s + 1); simp; omega
theorem endFrom_snoc (s : Nat) (l : List RulL) (x : RulL) : endFrom s (l ++ [x]) = endFrom s l + x.n - 1 := by
 induction l generalizing s with
 | nil => rfl
 | cons y l ih => simp only [List.cons_append, endFrom, ih]
theorem endFrom_le (s : Nat) (l : List RulL) (hn : ∀ x ∈ l, x.n ≤ 9) : endFrom s l ≤ s + l.length * 9 := by
 induction l generalizing s with
 | nil => simp [endFrom]
 | cons y l ih =>
  have h1 := hn y (by simp)
  have h2 := ih (s + y.n - 1) (fun x hx => hn x (List.mem_cons_of_mem _ hx))
  rw [endFrom, List.length_cons]; omega
theorem arcsFrom_snoc (L : List (List UInt8)) (all : List RulL) (leads : List Nat) (s : Nat) (l : List RulL) (t : List Nat) (x : RulL) (y : Nat) (h : l.length = t.length) :
  arcsFrom L all leads s (l ++ [x]) (t ++ [y]) = arcsFrom L all leads s l t ++ ruleArcs x (endFrom s l) y (0 :: 1 :: startsIn L x all leads) := by
 induction l generalizing s t with
 | nil =>
  cases t with
  | nil => simp [arcsFrom, endFrom]
  | cons a t => simp at h
 | cons z l ih =>
  cases t with
  | nil => simp at h
  | cons a t => simp only [List.cons_append, arcsFrom, endFrom, ih _ _ (by simpa using h), List.append_assoc]
theorem startsIn_length (L : List (List UInt8)) (x : RulL) (l : List RulL) (t : List Nat) : (startsIn L x l t).length ≤ l.length := by
 induction l generalizing t with
 | nil => simp [startsIn]
 | cons y l ih =>
  cases t with
  | nil => simp [startsIn]
  | cons a t => rw [startsIn]; have := ih t; split <;> simp <;> omega
theorem startsIn_snoc (L : List (List UInt8)) (x : RulL) (l : List RulL) (t : List Nat) (o : RulL) (s : Nat) (h : l.length = t.length) :
  startsIn L x (l ++ [o]) (t ++ [s]) = startsIn L x l t ++ if begB L x o then [s] else [] := by
 induction l generalizing t with
 | nil =>
  cases t with
  | nil => simp only [List.nil_append, startsIn]
  | cons a t => simp at h
 | cons z l ih =>
  cases t with
  | nil => simp at h
  | cons a t => simp only [List.cons_append, startsIn, ih _ (by simpa using h)]; split <;> rfl
theorem ruleArcs_length (x : RulL) (b l : Nat) (s : List Nat) : (ruleArcs x b l s).length = s.length + (x.n - 1) := by simp [ruleArcs]
theorem arcsFrom_length (L : List (List UInt8)) (all : List RulL) (leads : List Nat) (s : Nat) (l : List RulL) (t : List Nat) (hn : ∀ x ∈ l, x.n ≤ 9) : (arcsFrom L all leads s l t).length ≤ l.length * (all.length + 10) := by
 induction l generalizing s t with
 | nil => simp [arcsFrom]
 | cons z l ih =>
  cases t with
  | nil => simp [arcsFrom]
  | cons a t =>
   have h1 := hn z (by simp)
   have h2 := ih (s + z.n - 1) t (fun x hx => hn x (List.mem_cons_of_mem _ hx))
   have h3 := startsIn_length L z all leads
   rw [arcsFrom, List.length_append, ruleArcs_length]
   simp only [List.length_cons]
   rw [Nat.add_mul, Nat.one_mul]
   omega

end Go.Proofs.YtabocamjaecaaaaGreatDoor
