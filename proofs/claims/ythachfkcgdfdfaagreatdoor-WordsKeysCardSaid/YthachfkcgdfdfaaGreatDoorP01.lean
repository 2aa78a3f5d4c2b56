/- GS · GI · GX · Y0 -/
import Derived.Test.YthachfkcgdfdfaaGreatDoorP00
import GoSem.Core.Value
import Derived.Laws.StructEq
import Derived.Deep.QuietTactic
import Derived.BigQuiet
import Derived.StillTailTactics
import Derived.Deep.RegionHeld3
import Derived.Deep.DeepFit
import Derived.Lib.Strings
import Derived.Deep.DeepCutAuto
import Derived.Deep.CutBlock
import Derived.IntWalk
/- S12 · S10 · S13 -/
/- Plain words on arcs and machines: their order, strictly increasing lists. No program in sight. -/
namespace Go.Proofs.YthachfkcgdfdfaaGreatDoor
open Go

structure Arc where
 frm : Int
 inp : Int
 out : Int
 «to» : Int
instance : DecidableEq Arc := fun a b =>
 if h : a.frm = b.frm ∧ a.inp = b.inp ∧ a.out = b.out ∧ a.to = b.to then
  .isTrue (by obtain ⟨h1, h2, h3, h4⟩ := h; cases a; cases b; simp only at h1 h2 h3 h4; subst h1 h2 h3 h4; rfl)
 else .isFalse (fun e => h (by subst e; exact ⟨rfl, rfl, rfl, rfl⟩))

def Arc.lt (a b : Arc) : Prop := a.frm < b.frm ∨ a.frm = b.frm ∧ (a.inp < b.inp ∨ a.inp = b.inp ∧ (a.out < b.out ∨ a.out = b.out ∧ a.to < b.to))
theorem Arc.lt_irrefl (a : Arc) : ¬ a.lt a := by unfold Arc.lt; omega
theorem Arc.lt_trans {a b c : Arc} (h : a.lt b) (h' : b.lt c) : a.lt c := by unfold Arc.lt at *; omega
theorem Arc.lt_asymm {a b : Arc} (h : a.lt b) : ¬ b.lt a := by unfold Arc.lt at *; omega
theorem Arc.eq_of_not_lt {a b : Arc} (h : ¬ a.lt b) (h' : ¬ b.lt a) : a = b := by
 obtain ⟨a1, a2, a3, a4⟩ := a
 obtain ⟨b1, b2, b3, b4⟩ := b
 simp only [Arc.lt] at h h'
 simp only [Arc.mk.injEq]
 omega

def Increasing (l : List Arc) : Prop := l.Pairwise Arc.lt

theorem Increasing.ext {l m : List Arc} (hl : Increasing l) (hm : Increasing m) (h : ∀ x, x ∈ l ↔ x ∈ m) : l = m := by
 induction l generalizing m with
 | nil =>
  cases m with
  | nil => rfl
  | cons b m => exact absurd ((h b).2 (by simp)) (by simp)
 | cons a l ih =>
  cases m with
  | nil => exact absurd ((h a).1 (by simp)) (by simp)
  | cons b m =>
   obtain ⟨ha, hl'⟩ := List.pairwise_cons.1 hl
   obtain ⟨hb, hm'⟩ := List.pairwise_cons.1 hm
   have hab : a = b := by
    rcases List.mem_cons.1 ((h a).1 (by simp)) with e | h1
    ·exact e
    ·rcases List.mem_cons.1 ((h b).2 (by simp)) with e | h2
     ·exact e.symm
     ·exact absurd (hb _ h1) (Arc.lt_asymm (ha _ h2))
   subst hab
   refine congrArg (a :: ·) (ih hl' hm' (fun x => ?_))
   constructor
   ·intro hx
    rcases List.mem_cons.1 ((h x).1 (List.mem_cons_of_mem _ hx)) with rfl | h1
    ·exact absurd (ha _ hx) (Arc.lt_irrefl _)
    ·exact h1
   ·intro hx
    rcases List.mem_cons.1 ((h x).2 (List.mem_cons_of_mem _ hx)) with rfl | h1
    ·exact absurd (hb _ hx) (Arc.lt_irrefl _)
    ·exact h1

theorem Increasing.nodup {l : List Arc} (h : Increasing l) : l.Nodup := by
 unfold Increasing at h
 exact h.imp fun hab e => by subst e; exact Arc.lt_irrefl _ hab

def Arc.cells (a : Arc) : List Value := [.int .i64 a.frm, .int .i64 a.inp, .int .i64 a.out, .int .i64 a.to]
def flat (l : List Arc) : List Value := l.flatMap Arc.cells
theorem flat_append (a b : List Arc) : flat (a ++ b) = flat a ++ flat b := by simp [flat]
theorem flat_cons (x : Arc) (l : List Arc) : flat (x :: l) = .int .i64 x.frm :: .int .i64 x.inp :: .int .i64 x.out :: .int .i64 x.to :: flat l := by simp [flat, Arc.cells]
theorem flat_length (l : List Arc) : (flat l).length = l.length * 4 := by
 induction l with
 | nil => rfl
 | cons x l ih => rw [flat_cons]; simp [ih]; omega
theorem flat_get (l : List Arc) (i : Nat) (x : Arc) (h : l[i]? = some x) : (flat l)[i * 4]? = some (.int .i64 x.frm) ∧ (flat l)[i * 4 + 1]? = some (.int .i64 x.inp) ∧ (flat l)[i * 4 + 2]? = some (.int .i64 x.out) ∧ (flat l)[i * 4 + 3]? = some (.int .i64 x.to) := by
 induction l generalizing i with
 | nil => simp at h
 | cons y l ih =>
  cases i with
  | zero => simp at h; subst h; simp [flat_cons]
  | succ i =>
   rw [List.getElem?_cons_succ] at h
   have := ih i h
   rw [flat_cons, show (i + 1) * 4 = i * 4 + 4 from by omega]
   simpa using this
theorem flat_set (l : List Arc) (i : Nat) (x : Arc) (h : i < l.length) :
  ((((flat l).set (i * 4) (.int .i64 x.frm)).set (i * 4 + 1) (.int .i64 x.inp)).set (i * 4 + 2) (.int .i64 x.out)).set (i * 4 + 3) (.int .i64 x.to) = flat (l.set i x) := by
 induction l generalizing i with
 | nil => simp at h
 | cons y l ih =>
  cases i with
  | zero => simp [flat_cons]
  | succ i =>
   have := ih i (by simpa using h)
   rw [List.set_cons_succ, flat_cons, flat_cons, ← this, show (i + 1) * 4 = i * 4 + 4 from by omega]
   simp

end Go.Proofs.YthachfkcgdfdfaaGreatDoor

/- Plain words on alphabets: which texts can begin letters, the longest letter, the letters of a text. No program in sight. -/
namespace Go.Proofs.YthachfkcgdfdfaaGreatDoor

/-- Letters of L, one after the other, can begin with s. -/
def FollowsN (L : List (List UInt8)) : Nat → List UInt8 → Prop
 | 0, _ => False
 | n + 1, s => ∃ l ∈ L, s <+: l ∨ ∃ r, s = l ++ r ∧ FollowsN L n r
def Follows (L : List (List UInt8)) (s : List UInt8) : Prop := ∃ n, FollowsN L n s

theorem follows_iff (L : List (List UInt8)) (s : List UInt8) : Follows L s ↔ ∃ l ∈ L, s <+: l ∨ ∃ r, s = l ++ r ∧ Follows L r := by
 constructor
 ·rintro ⟨n, h⟩
  cases n with
  | zero => exact h.elim
  | succ n =>
   obtain ⟨l, hl, h | ⟨r, e, h⟩⟩ := h
   ·exact ⟨l, hl, .inl h⟩
   ·exact ⟨l, hl, .inr ⟨r, e, n, h⟩⟩
 ·rintro ⟨l, hl, h | ⟨r, e, n, h⟩⟩
  ·exact ⟨1, l, hl, .inl h⟩
  ·exact ⟨n + 1, l, hl, .inr ⟨r, e, h⟩⟩

theorem prefix_drop {l s : List UInt8} (h : l <+: s) : s = l ++ s.drop l.length := by
 obtain ⟨r, rfl⟩ := h; simp

theorem append_of_prefix {l s r : List UInt8} : s = l ++ r ↔ l <+: s ∧ r = s.drop l.length := by
 constructor
 ·rintro rfl; exact ⟨⟨r, rfl⟩, by simp⟩
 ·rintro ⟨h, rfl⟩; exact prefix_drop h

/-- The index of the longest letter of at most n bytes with which t begins. -/
def atN (L : List (List UInt8)) (t : List UInt8) : Nat → Option Nat
 | 0 => none
 | n + 1 => if n + 1 ≤ t.length ∧ t.take (n + 1) ∈ L then some (L.idxOf (t.take (n + 1))) else atN L t n

def atF (L : List (List UInt8)) (t : List UInt8) : Option Nat := atN L t 3
theorem take_of_prefix {l t : List UInt8} (h : l <+: t) : t.take l.length = l := by
 obtain ⟨r, rfl⟩ := h; simp

theorem idxOf_getElem {L : List (List UInt8)} (hd : L.Nodup) {j : Nat} {l : List UInt8} (h : L[j]? = some l) : L.idxOf l = j := by
 induction L generalizing j with
 | nil => simp at h
 | cons a L ih =>
  cases j with
  | zero => simp at h; subst h; simp
  | succ j =>
   rw [List.getElem?_cons_succ] at h
   have hm : l ∈ L := List.mem_of_getElem? h
   have hne : a ≠ l := fun e => (List.nodup_cons.1 hd).1 (e ▸ hm)
   rw [List.idxOf_cons, show (a == l) = false from by simpa using hne, ih (List.nodup_cons.1 hd).2 h]; rfl

theorem atN_best (L : List (List UInt8)) (hd : L.Nodup) (t : List UInt8) (j : Nat) (l : List UInt8) (hj : L[j]? = some l) (hp : l <+: t) (hbest : ∀ m ∈ L, m <+: t → m.length ≤ l.length) (h1 : 1 ≤ l.length) :
  ∀ n, l.length ≤ n → atN L t n = some j := by
 intro n
 induction n with
 | zero => intro h; omega
 | succ n ih =>
  intro h
  rw [atN]
  by_cases e : l.length = n + 1
  ·have ht : t.take (n + 1) = l := by rw [← e]; exact take_of_prefix hp
   have hlen : n + 1 ≤ t.length := by rw [← e]; exact hp.length_le
   rw [ht, if_pos ⟨hlen, List.mem_of_getElem? hj⟩, idxOf_getElem hd hj]
  ·rw [if_neg, ih (by omega)]
   rintro ⟨h2, h3⟩
   have := hbest _ h3 (List.take_prefix _ _)
   rw [List.length_take] at this
   omega

theorem atN_some {L : List (List UInt8)} {t : List UInt8} {n k : Nat} (h : atN L t n = some k) : ∃ l, L[k]? = some l ∧ l <+: t ∧ 1 ≤ l.length ∧ l.length ≤ n := by
 induction n with
 | zero => cases h
 | succ n ih =>
  rw [atN] at h
  split at h
  ·rename_i hh
   obtain rfl := Option.some.inj h
   have hlt := List.idxOf_lt_length_of_mem hh.2
   refine ⟨t.take (n + 1), ?_, List.take_prefix _ _, by rw [List.length_take]; omega, by rw [List.length_take]; omega⟩
   rw [List.getElem?_eq_getElem hlt, List.getElem_idxOf]
  ·obtain ⟨l, h1, h2, h3, h4⟩ := ih h
   exact ⟨l, h1, h2, h3, by omega⟩
/-- What reading letters gives: the letters, the error, its offset. -/
structure Rd where
 letters : List Int
 err : Int
 off : Nat

/-- The letters of t, which stands at an offset, behind acc; at most f more. -/
def readGo (L : List (List UInt8)) : Nat → List UInt8 → Nat → List Int → Rd
 | 0, t, o, acc => if t = [] then ⟨acc, 0, 0⟩ else match atF L t with
  | none => ⟨[], 3, o⟩
  | some _ => ⟨[], 2, o⟩
 | f + 1, t, o, acc => if t = [] then ⟨acc, 0, 0⟩ else match atF L t with
  | none => ⟨[], 3, o⟩
  | some k => readGo L f (t.drop ((L[k]?.getD []).length)) (o + (L[k]?.getD []).length) (acc ++ [(k : Int)])

def readL (L : List (List UInt8)) (t : List UInt8) : Rd := if t = [] then ⟨[], 6, 0⟩ else readGo L 24 t 0 []

end Go.Proofs.YthachfkcgdfdfaaGreatDoor

/- Plain words on the machine of rules: states and arcs, as chapter 13 has them. No program in sight. -/
namespace Go.Proofs.YthachfkcgdfdfaaGreatDoor

/-- A byte of a text, or 0. -/
def byteL (l : List UInt8) (i : Nat) : Int := match l[i]? with
 | some c => c.toNat
 | none => 0

/-- A rule as texts. -/
structure RulL where
 src : List UInt8
 dst : List UInt8
 nxt : List UInt8
 fin : Bool

def RulL.n (x : RulL) : Nat := max x.src.length x.dst.length

/-- The states to which rules lead; s: the next new state. -/
def leadsFrom : Nat → List RulL → List Nat
 | _, [] => []
 | s, x :: r => if x.nxt = [] then (if x.fin then 2 else 1) :: leadsFrom s r else s :: leadsFrom (s + 1) r
/-- How many states follow the contexts. -/
def statesFrom : Nat → List RulL → Nat
 | s, [] => s
 | s, x :: r => if x.nxt = [] then statesFrom s r else statesFrom (s + 1) r

def firstLetter (L : List (List UInt8)) (t : List UInt8) : Int := (readL L t).letters[0]?.getD (-1)
/-- A rule can begin in the context of another one. -/
def begB (L : List (List UInt8)) (x o : RulL) : Bool := (readL L o.nxt).letters.contains (firstLetter L x.src)

/-- The states at which a rule starts in the contexts of others. -/
def startsIn (L : List (List UInt8)) (x : RulL) : List RulL → List Nat → List Nat
 | o :: r, s :: t => if begB L x o then s :: startsIn L x r t else startsIn L x r t
 | _, _ => []

/-- The arcs of a rule: from its starts, then its own way over new states from base on, to lead. -/
def arcTo (x : RulL) (base lead j : Nat) : Int := if j + 1 = x.n then (lead : Int) else (base : Int) + j
def arcAt (x : RulL) (base lead j : Nat) (f : Int) : Arc := ⟨f, byteL x.src j, byteL x.dst j, arcTo x base lead j⟩
def ruleArcs (x : RulL) (base lead : Nat) (starts : List Nat) : List Arc :=
 (starts.map fun s : Nat => arcAt x base lead 0 (s : Int)) ++ (List.range (x.n - 1)).map fun j : Nat => arcAt x base lead (j + 1) ((base : Int) + (j : Int))

/-- The arcs of rules. -/
def arcsFrom (L : List (List UInt8)) (all : List RulL) (leads : List Nat) : Nat → List RulL → List Nat → List Arc
 | base, x :: r, l :: t => ruleArcs x base l (0 :: 1 :: startsIn L x all leads) ++ arcsFrom L all leads (base + x.n - 1) r t
 | _, _, _ => []
/-- How many states there are behind all ways. -/
def endFrom : Nat → List RulL → Nat
 | base, [] => base
 | base, x :: r => endFrom (base + x.n - 1) r

def compileArcs (L : List (List UInt8)) (l : List RulL) : List Arc := arcsFrom L l (leadsFrom 3 l) (statesFrom 3 l) l (leadsFrom 3 l)
def compileStates (l : List RulL) : Nat := endFrom (statesFrom 3 l) l

theorem leadsFrom_length (s : Nat) (l : List RulL) : (leadsFrom s l).length = l.length := by
 induction l generalizing s with
 | nil => rfl
 | cons x r ih => rw [leadsFrom]; split <;> simp [ih]

theorem leadsFrom_snoc (s : Nat) (l : List RulL) (x : RulL) : leadsFrom s (l ++ [x]) = leadsFrom s l ++ [if x.nxt = [] then (if x.fin then 2 else 1) else statesFrom s l] := by
 induction l generalizing s with
 | nil => simp only [List.nil_append, leadsFrom, statesFrom]; split <;> rfl
 | cons y l ih => simp only [List.cons_append, leadsFrom, statesFrom]; split <;> simp [*]
theorem statesFrom_snoc (s : Nat) (l : List RulL) (x : RulL) : statesFrom s (l ++ [x]) = if x.nxt = [] then statesFrom s l else statesFrom s l + 1 := by
 induction l generalizing s with
 | nil => simp only [List.nil_append, statesFrom]
 | cons y l ih => simp only [List.cons_append, statesFrom]; split <;> simp [ih]
theorem statesFrom_le (s : Nat) (l : List RulL) : statesFrom s l ≤ s + l.length := by
 induction l generalizing s with
 | nil => simp [statesFrom]
 | cons y l ih =>
  rw [statesFrom]
  split
  ·have := ih s; simp; omega
  ·have := ih (s + 1); simp; omega
theorem endFrom_snoc (s : Nat) (l : List RulL) (x : RulL) : endFrom s (l ++ [x]) = endFrom s l + x.n - 1 := by
 induction l generalizing s with
 | nil => rfl
 | cons y l ih => simp only [List.cons_append, endFrom, ih]
theorem endFrom_le (s : Nat) (l : List RulL) (hn : ∀ x ∈ l, x.n ≤ 9) : endFrom s l ≤ s + l.length * 9 := by
 induction l generalizing s with
 | nil => simp [endFrom]
 | cons y l ih =>
  have h1 := hn y (by simp)
  have h2 := ih (s + y.n - 1) (fun x hx => hn x (List.mem_cons_of_mem _ hx))
  rw [endFrom, List.length_cons]; omega
theorem arcsFrom_snoc (L : List (List UInt8)) (all : List RulL) (leads : List Nat) (s : Nat) (l : List RulL) (t : List Nat) (x : RulL) (y : Nat) (h : l.length = t.length) :
  arcsFrom L all leads s (l ++ [x]) (t ++ [y]) = arcsFrom L all leads s l t ++ ruleArcs x (endFrom s l) y (0 :: 1 :: startsIn L x all leads) := by
 induction l generalizing s t with
 | nil =>
  cases t with
  | nil => simp [arcsFrom, endFrom]
  | cons a t => simp at h
 | cons z l ih =>
  cases t with
  | nil => simp at h
  | cons a t => simp only [List.cons_append, arcsFrom, endFrom, ih _ _ (by simpa using h), List.append_assoc]
theorem startsIn_length (L : List (List UInt8)) (x : RulL) (l : List RulL) (t : List Nat) : (startsIn L x l t).length ≤ l.length := by
 induction l generalizing t with
 | nil => simp [startsIn]
 | cons y l ih =>
  cases t with
  | nil => simp [startsIn]
  | cons a t => rw [startsIn]; have := ih t; split <;> simp <;> omega
theorem startsIn_snoc (L : List (List UInt8)) (x : RulL) (l : List RulL) (t : List Nat) (o : RulL) (s : Nat) (h : l.length = t.length) :
  startsIn L x (l ++ [o]) (t ++ [s]) = startsIn L x l t ++ if begB L x o then [s] else [] := by
 induction l generalizing t with
 | nil =>
  cases t with
  | nil => simp only [List.nil_append, startsIn]
  | cons a t => simp at h
 | cons z l ih =>
  cases t with
  | nil => simp at h
  | cons a t => simp only [List.cons_append, startsIn, ih _ (by simpa using h)]; split <;> rfl
theorem ruleArcs_length (x : RulL) (b l : Nat) (s : List Nat) : (ruleArcs x b l s).length = s.length + (x.n - 1) := by simp [ruleArcs]
theorem arcsFrom_length (L : List (List UInt8)) (all : List RulL) (leads : List Nat) (s : Nat) (l : List RulL) (t : List Nat) (hn : ∀ x ∈ l, x.n ≤ 9) : (arcsFrom L all leads s l t).length ≤ l.length * (all.length + 10) := by
 induction l generalizing s t with
 | nil => simp [arcsFrom]
 | cons z l ih =>
  cases t with
  | nil => simp [arcsFrom]
  | cons a t =>
   have h1 := hn z (by simp)
   have h2 := ih (s + z.n - 1) t (fun x hx => hn x (List.mem_cons_of_mem _ hx))
   have h3 := startsIn_length L z all leads
   rw [arcsFrom, List.length_append, ruleArcs_length]
   simp only [List.length_cons]
   rw [Nat.add_mul, Nat.one_mul]
   omega

end Go.Proofs.YthachfkcgdfdfaaGreatDoor
/- W12 · W10 -/
/- Walks of the reference's machines (gazetteerref12): the order of arcs, sorting. -/
namespace Go.Proofs.YthachfkcgdfdfaaGreatDoor
open Go.RowKit Classical

theorem eql_arc (x y : Arc) (w : World) : (binOp .eql 177 (.agg #[.int .i64 x.frm, .int .i64 x.inp, .int .i64 x.out, .int .i64 x.to]) (.agg #[.int .i64 y.frm, .int .i64 y.inp, .int .i64 y.out, .int .i64 y.to])).run Tryz.prog w = .ok (.bool (decide (x = y))) w := by
 have hS : Tryz.prog.underlying 177 = some (.struct (Tryz.prog.fieldsOf 177)) := by kernel_rfl
 have hp : Tryz.prog.stoodInHeld 177 = false := by kernel_rfl
 rw [run_eql_struct, show (10000 : Nat) = 9999 + 1 from rfl, run_equalIn_agg w 9999 177 _ _ hS hp]
 simp only [Program.fieldsOf, Tryz.underlying177]
 go_simp
 obtain ⟨a, b, c, d⟩ := x
 obtain ⟨a', b', c', d'⟩ := y
 simp only [Arc.mk.injEq]
 by_cases h1 : a = a' <;> by_cases h2 : b = b' <;> by_cases h3 : c = c' <;> by_cases h4 : d = d' <;> simp [h1, h2, h3, h4]
theorem neq_arc (x y : Arc) (w : World) : (binOp .neq 177 (.agg #[.int .i64 x.frm, .int .i64 x.inp, .int .i64 x.out, .int .i64 x.to]) (.agg #[.int .i64 y.frm, .int .i64 y.inp, .int .i64 y.out, .int .i64 y.to])).run Tryz.prog w = .ok (.bool (!decide (x = y))) w := by
 have hS : Tryz.prog.underlying 177 = some (.struct (Tryz.prog.fieldsOf 177)) := by kernel_rfl
 have hp : Tryz.prog.stoodInHeld 177 = false := by kernel_rfl
 rw [run_neq_struct, show (10000 : Nat) = 9999 + 1 from rfl, run_equalIn_agg w 9999 177 _ _ hS hp]
 simp only [Program.fieldsOf, Tryz.underlying177]
 go_simp
 obtain ⟨a, b, c, d⟩ := x
 obtain ⟨a', b', c', d'⟩ := y
 simp only [Arc.mk.injEq]
 by_cases h1 : a = a' <;> by_cases h2 : b = b' <;> by_cases h3 : c = c' <;> by_cases h4 : d = d' <;> simp [h1, h2, h3, h4]
theorem guard_arc (op : BinOp) (a b : Operand) (x y : Array Value) (w : World) : (eqGuard op 177 a b (.agg x) (.agg y)).run Tryz.prog w = .ok () w :=
 run_eqGuard_agg w op _ a b x y (by kernel_rfl)
theorem info_arc : (Tryz.prog.info? 177).map (fun i => (i.zero, i.size, i.bytes)) = some (some (.agg #[.int .i64 0, .int .i64 0, .int .i64 0, .int .i64 0]), 4, 32) := by kernel_rfl

theorem RowAt.arcs {w : World} {B : Nat} {a : Option Addr} {l : List Arc} (h : RowAt w B a (flat l)) (hn : 0 < l.length) :
  ∃ b off, a = some ⟨b, off, none⟩ ∧ b < B ∧ ∀ i (hi : i < l.length), w.cell? ⟨b, off + i * 4, none⟩ = some (.int .i64 l[i].frm) ∧ w.cell? ⟨b, off + i * 4 + 1, none⟩ = some (.int .i64 l[i].inp) ∧
   w.cell? ⟨b, off + i * 4 + 2, none⟩ = some (.int .i64 l[i].out) ∧ w.cell? ⟨b, off + i * 4 + 3, none⟩ = some (.int .i64 l[i].to) := by
 obtain ⟨b, off, e, hb, hc⟩ := h (by rw [flat_length]; omega)
 refine ⟨b, off, e, hb, fun i hi => ?_⟩
 obtain ⟨h0, h1, h2, h3⟩ := flat_get l i l[i] (List.getElem?_eq_getElem hi)
 exact ⟨hc _ _ h0, hc _ _ h1, hc _ _ h2, hc _ _ h3⟩

end Go.Proofs.YthachfkcgdfdfaaGreatDoor

/- Walks of the reference's alphabets (gazetteerref10). -/
namespace Go.Proofs.YthachfkcgdfdfaaGreatDoor
open Go.RowKit Classical

def Alph.bls (A : Alph) : List (List UInt8) := A.letters.map bl

theorem bl_extract_to (s : ByteArray) (k : Nat) : bl (s.extract k s.size) = (bl s).drop k := by
 unfold bl; rw [Lib.extract_data, List.take_of_length_le (by simp)]

end Go.Proofs.YthachfkcgdfdfaaGreatDoor
/- W12b · W12c · Or -/
/- Walk of the reference's sorting of arcs (gazetteerref12.Sorted). -/
namespace Go.Proofs.YthachfkcgdfdfaaGreatDoor
open Go.RowKit Classical

theorem mem_take_succ (l : List Arc) (k : Nat) (h : k < l.length) (y : Arc) : y ∈ l.take (k + 1) ↔ y ∈ l.take k ∨ y = l[k] := by
 rw [List.take_add_one, List.getElem?_eq_getElem h, List.mem_append]; simp

theorem own_succ {W : World} {base : Nat} {e : TypeId} {size : Nat} {v : Value} {k : Nat} {xs : List Value} (h : W.ownsRow base e size v (k + 1) xs) : ∃ g cap, v = .slice (some ⟨g, 0, none⟩) (k + 1) cap := by
 rcases h.2 with ⟨_, h0⟩ | ⟨g, cap, _, rfl, _⟩
 ·omega
 ·exact ⟨g, cap, rfl⟩

theorem own_set_arc {w : World} {base : Nat} {e : TypeId} {g n cap : Nat} {L : List Arc} (h : w.ownsRow base e 4 (.slice (some ⟨g, 0, none⟩) n cap) n (flat L)) (i : Nat) (x : Arc) (hi : i < L.length) :
  ((((w.setCell ⟨g, i * 4, none⟩ (.int .i64 x.frm)).setCell ⟨g, i * 4 + 1, none⟩ (.int .i64 x.inp)).setCell ⟨g, i * 4 + 2, none⟩ (.int .i64 x.out)).setCell ⟨g, i * 4 + 3, none⟩ (.int .i64 x.to)).ownsRow base e 4 (.slice (some ⟨g, 0, none⟩) n cap) n (flat (L.set i x)) := by
 have h1 := (h.stored (i * 4) (.int .i64 x.frm)).1
 have h2 := (h1.stored (i * 4 + 1) (.int .i64 x.inp)).1
 have h3 := (h2.stored (i * 4 + 2) (.int .i64 x.out)).1
 have h4 := (h3.stored (i * 4 + 3) (.int .i64 x.to)).1
 rw [flat_set L i x hi] at h4
 exact h4
theorem own_arc_cells {w : World} {base : Nat} {e : TypeId} {g n cap : Nat} {L : List Arc} (h : w.ownsRow base e 4 (.slice (some ⟨g, 0, none⟩) n cap) n (flat L)) (i : Nat) (x : Arc) (hx : L[i]? = some x) :
  w.cell? ⟨g, i * 4, none⟩ = some (.int .i64 x.frm) ∧ w.cell? ⟨g, i * 4 + 1, none⟩ = some (.int .i64 x.inp) ∧ w.cell? ⟨g, i * 4 + 2, none⟩ = some (.int .i64 x.out) ∧ w.cell? ⟨g, i * 4 + 3, none⟩ = some (.int .i64 x.to) := by
 have hn : L.length = n := by have := h.1; rw [flat_length] at this; omega
 have hi := (List.getElem?_eq_some_iff.1 hx).1
 obtain ⟨h0, h1, h2, h3⟩ := flat_get L i x hx
 refine ⟨?_, ?_, ?_, ?_⟩
 ·rw [h.cellAt _ (by omega), h0]
 ·rw [h.cellAt _ (by omega), h1]
 ·rw [h.cellAt _ (by omega), h2]
 ·rw [h.cellAt _ (by omega), h3]
theorem cells_new (w : World) (cs : List Value) (t : TypeId) : ∀ j u, cs[j]? = some u → (w.alloc (.cells cs.toArray t)).cell? ((⟨w.heap.size, 0, none⟩ : Addr).add j) = some u := by
 intro j u h
 have := Box.new w cs t j u h
 unfold Addr.add
 split
 ·rename_i e; subst e; exact this
 ·simpa using this

end Go.Proofs.YthachfkcgdfdfaaGreatDoor

/- Walks of the reference's comparing (gazetteerref12: Same, Texts); how machines read. -/
namespace Go.Proofs.YthachfkcgdfdfaaGreatDoor
open Go.RowKit Classical

structure Mach where
 states : Int
 start : Int
 final : List Int
 arcs : List Arc
def MachAt (w : World) (B : Nat) (v : Value) (M : Mach) : Prop :=
 ∃ fa fc aa ac, v = .agg #[.int .i64 M.states, .int .i64 M.start, .slice fa M.final.length fc, .slice aa M.arcs.length ac] ∧ M.final.length ≤ maxLen ∧ M.arcs.length ≤ maxLen ∧
  RowAt w B fa (nums M.final) ∧ RowAt w B aa (flat M.arcs)
theorem MachAt.below {w w' : World} {B B' : Nat} {v : Value} {M : Mach} (h : MachAt w B v M) (hb : Below B' w w') (hB : B ≤ B') : MachAt w' B v M := by
 obtain ⟨fa, fc, aa, ac, e, h1, h2, h3, h4⟩ := h
 exact ⟨fa, fc, aa, ac, e, h1, h2, h3.below hb hB, h4.below hb hB⟩
theorem MachAt.more {w : World} {B B' : Nat} {v : Value} {M : Mach} (h : MachAt w B v M) (hB : B ≤ B') : MachAt w B' v M := by
 obtain ⟨fa, fc, aa, ac, e, h1, h2, h3, h4⟩ := h
 exact ⟨fa, fc, aa, ac, e, h1, h2, h3.more hB, h4.more hB⟩

theorem list_ext_to {α : Type} {a b : List α} (hl : a.length = b.length) (h : ∀ j, j < a.length → a[j]? = b[j]?) : a = b := by
 apply List.ext_getElem?
 intro j
 rcases Nat.lt_or_ge j a.length with hj | hj
 ·exact h j hj
 ·rw [List.getElem?_eq_none hj, List.getElem?_eq_none (by omega)]
theorem to_step {α : Type} {a b : List α} {k : Nat} (h : ∀ j, j < k → a[j]? = b[j]?) (ha : k < a.length) (hb : k < b.length) (e : a[k] = b[k]) : ∀ j, j < k + 1 → a[j]? = b[j]? := by
 intro j hj
 rcases Nat.lt_succ_iff_lt_or_eq.1 hj with hj | rfl
 ·exact h j hj
 ·rw [List.getElem?_eq_getElem ha, List.getElem?_eq_getElem hb, e]

end Go.Proofs.YthachfkcgdfdfaaGreatDoor

/- Walk: the first of some numbers that is not 0 (cmp.Or). -/
namespace Go.Proofs.YthachfkcgdfdfaaGreatDoor
open Go.RowKit Classical

/-- The first of some numbers that is not 0. -/
def orI : List Int → Int
 | [] => 0
 | x :: r => if x = 0 then orI r else x
theorem orI_drop {l : List Int} {k : Nat} (h : ∀ j, j < k → l[j]? = some 0) (hk : k ≤ l.length) : orI l = orI (l.drop k) := by
 induction k generalizing l with
 | zero => rfl
 | succ k ih =>
  cases l with
  | nil => simp at hk
  | cons a l =>
   have h0 := h 0 (by omega)
   simp at h0
   subst h0
   rw [orI, if_pos rfl, ih (fun j hj => by have := h (j + 1) (by omega); simpa using this) (by simpa using hk)]
   rfl

set_option maxRecDepth 100000 in
set_option maxHeartbeats 1000000 in
theorem Or_any (zs : List Int) (a : Option Addr) (c : Nat) (B : Nat) (hz : zs.length ≤ maxLen) (w : World) (h : RowAt w B a (nums zs)) :
  Calls Tryz.prog 42 #[.slice a zs.length c] w fun e w' => e = .returned (.int .i64 (orI zs)) ∧ w' = w := by
 unfold maxLen at hz
 go_enter Tryz.func42, Tryz.ntmps42
 go_wp2_with fail
 go_loop [8] (fun i => ∃ k : Nat, k ≤ zs.length ∧ i = .int .i64 k ∧ (∀ j, j < k → zs[j]? = some 0)) (fun i => zs.length - (intOf i).toNat)
 case atStart => exact ⟨0, Nat.zero_le _, rfl, by simp⟩
 case round =>
  obtain ⟨k, hk, rfl, hno⟩ := hrel
  have Hno := Lib.hid hno
  clear hno
  by_cases hkl : k < zs.length
  ·obtain ⟨g, o, rfl, hg, hc⟩ := h.nums (by omega)
   have c0 := hc k hkl
   have Hget := Lib.hid (List.getElem?_eq_getElem hkl)
   have Hor := Lib.hid (show orI zs = if zs[k] = 0 then orI (zs.drop (k + 1)) else zs[k] from by rw [orI_drop Hno.out hk, List.drop_eq_getElem_cons hkl]; rfl)
   obtain ⟨z, hz⟩ : ∃ z, zs[k] = z := ⟨_, rfl⟩
   rw [hz] at c0 Hget Hor
   clear hc hz
   by_cases he : z = 0
   ·subst he
    go_wp2
    refine ⟨⟨k + 1, by omega, by go_num, fun j hj => ?_⟩, by simp [intOf]; omega⟩
    rcases Nat.lt_succ_iff_lt_or_eq.1 hj with hj | rfl
    ·exact Hno.out j hj
    ·exact Hget.out
   ·have d1 : (z != 0) = true := by simpa using he
    have He := Lib.hid he
    clear he
    go_wp2
    go_ret
    exact ⟨ret_int (by rw [Hor.out, if_neg He.out]), rfl⟩
  ·go_wp2
   go_ret
   refine ⟨ret_int ?_, rfl⟩
   rw [orI_drop Hno.out hk, List.drop_of_length_le (by omega)]; rfl

end Go.Proofs.YthachfkcgdfdfaaGreatDoor
/- Plain words: the words of a text between blanks; texts joined by blanks. No program in sight. -/
namespace Go.Proofs.YthachfkcgdfdfaaGreatDoor
open Go

/-- The words of what is left of a text, of which some bytes of a word are known. -/
def wordsGo : List UInt8 → List UInt8 → List (List UInt8)
 | [], cur => if cur = [] then [] else [cur]
 | c :: t, cur => if c = 32 then (if cur = [] then wordsGo t [] else cur :: wordsGo t []) else wordsGo t (cur ++ [c])
def wordsOf (t : List UInt8) : List (List UInt8) := wordsGo t []
theorem wordsGo_word : ∀ (w t cur : List UInt8), 32 ∉ w → wordsGo (w ++ t) cur = wordsGo t (cur ++ w)
 | [], t, cur, _ => by simp
 | c :: w, t, cur, h => by
  have hc : c ≠ 32 := fun e => h (by rw [e]; exact List.mem_cons_self ..)
  rw [List.cons_append, wordsGo, if_neg hc, wordsGo_word w t (cur ++ [c]) (fun q => h (List.mem_cons_of_mem _ q)), List.append_assoc]
  rfl
/-- The first part, and the rest behind a blank. -/
theorem wordsOf_cut {w r : List UInt8} (h : 32 ∉ w) : wordsOf (w ++ 32 :: r) = (if w = [] then [] else [w]) ++ wordsOf r := by
 unfold wordsOf
 rw [wordsGo_word w _ [] h, List.nil_append, wordsGo, if_pos rfl]
 split
 ·rfl
 ·rfl
theorem wordsOf_last {w : List UInt8} (h : 32 ∉ w) : wordsOf w = if w = [] then [] else [w] := by
 have := wordsGo_word w [] [] h
 rw [List.append_nil, List.nil_append] at this
 unfold wordsOf
 rw [this, wordsGo]
theorem wordsOf_nil : wordsOf [] = [] := rfl
theorem wordsGo_ok : ∀ (t cur : List UInt8), 32 ∉ cur → ∀ p ∈ wordsGo t cur, p ≠ [] ∧ 32 ∉ p
 | [], cur, hc, p, hp => by
  rw [wordsGo] at hp
  split at hp
  ·cases hp
  ·obtain rfl := List.mem_singleton.1 hp
   exact ⟨by assumption, hc⟩
 | c :: t, cur, hc, p, hp => by
  rw [wordsGo] at hp
  split at hp
  ·split at hp
   ·exact wordsGo_ok t [] (by simp) p hp
   ·rcases List.mem_cons.1 hp with rfl | hp
    ·exact ⟨by assumption, hc⟩
    ·exact wordsGo_ok t [] (by simp) p hp
  ·rename_i h
   exact wordsGo_ok t (cur ++ [c]) (by simp only [List.mem_append, List.mem_singleton]; rintro (q | q); exact hc q; exact h q.symm) p hp
theorem wordsOf_ok {t p : List UInt8} (hp : p ∈ wordsOf t) : p ≠ [] ∧ 32 ∉ p := wordsGo_ok t [] (by simp) p hp
theorem wordsGo_flat : ∀ (t cur : List UInt8), (wordsGo t cur).flatten = cur ++ t.filter (fun c => c != 32)
 | [], cur => by
  rw [wordsGo]
  split
  ·rename_i h; rw [h]; rfl
  ·simp
 | c :: t, cur => by
  rw [wordsGo]
  split
  ·rename_i h
   subst h
   split
   ·rename_i h2; rw [wordsGo_flat t [], h2]; simp
   ·rw [List.flatten_cons, wordsGo_flat t []]; simp
  ·rename_i h
   rw [wordsGo_flat t (cur ++ [c])]
   simp [h]
/-- All bytes but blanks are in the words. -/
theorem wordsOf_flat (t : List UInt8) : (wordsOf t).flatten = t.filter (fun c => c != 32) := by rw [wordsOf, wordsGo_flat, List.nil_append]
theorem wordsOf_gap : ∀ (n : Nat) (t : List UInt8), wordsOf (List.replicate n 32 ++ t) = wordsOf t
 | 0, t => rfl
 | n + 1, t => by
  rw [List.replicate_succ, List.cons_append]
  have := wordsOf_cut (w := []) (r := List.replicate n 32 ++ t) (by simp)
  rw [List.nil_append] at this
  rw [this, if_pos rfl, List.nil_append, wordsOf_gap n t]
/-- Words with blanks between, before and behind them are split into themselves. -/
theorem wordsOf_again (n : Nat) : ∀ (l : List (List UInt8)), (∀ p ∈ l, p ≠ [] ∧ 32 ∉ p) → wordsOf (l.flatMap (fun p => p ++ List.replicate (n + 1) 32)) = l
 | [], _ => rfl
 | p :: l, h => by
  obtain ⟨h1, h2⟩ := h p (List.mem_cons_self ..)
  have e2 : ∀ R : List UInt8, (p ++ List.replicate (n + 1) 32) ++ R = p ++ 32 :: (List.replicate n 32 ++ R) := fun R => by rw [List.append_assoc, List.replicate_succ, List.cons_append]
  rw [List.flatMap_cons, e2, wordsOf_cut h2, if_neg h1, wordsOf_gap, wordsOf_again n l (fun q hq => h q (List.mem_cons_of_mem _ hq))]
  rfl
theorem wordsOf_gaps (n : Nat) {l : List (List UInt8)} (h : ∀ p ∈ l, p ≠ [] ∧ 32 ∉ p) : wordsOf (List.replicate (n + 1) 32 ++ l.flatMap (fun p => p ++ List.replicate (n + 1) 32)) = l := by
 rw [wordsOf_gap, wordsOf_again n l h]
theorem wordsGo_len : ∀ (t cur : List UInt8), (wordsGo t cur).length ≤ t.length + (if cur = [] then 0 else 1)
 | [], cur => by rw [wordsGo]; split <;> simp
 | c :: t, cur => by
  rw [wordsGo]
  split
  ·split
   ·have := wordsGo_len t []
    simp at this
    rw [List.length_cons]; omega
   ·have := wordsGo_len t []
    simp at this
    rw [List.length_cons, List.length_cons]; omega
  ·have := wordsGo_len t (cur ++ [c])
   rw [if_neg (by simp)] at this
   rw [List.length_cons]; omega
theorem wordsOf_len (t : List UInt8) : (wordsOf t).length ≤ t.length := by have := wordsGo_len t []; unfold wordsOf; simpa using this
end Go.Proofs.YthachfkcgdfdfaaGreatDoor
