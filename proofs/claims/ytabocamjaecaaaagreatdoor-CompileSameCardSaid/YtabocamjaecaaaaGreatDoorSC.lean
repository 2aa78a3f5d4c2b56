/- Plain words: the ways of a compiled machine are its rules, one after the other. No program in sight. -/
import Derived.Test.YtabocamjaecaaaaGreatDoorN8
namespace Go.Proofs.YtabocamjaecaaaaGreatDoor
open Go Classical

/-- Rules with the first of their own states, and the state to which they lead. -/
def triFrom : Nat → List RulL → List Nat → List (RulL × Nat × Nat)
 | base, x :: r, l :: t => (x, base, l) :: triFrom (base + x.n - 1) r t
 | _, _, _ => []
theorem mem_arcsFrom {L : List (List UInt8)} {all : List RulL} {leads : List Nat} {a : Arc} : ∀ (r : List RulL) (t : List Nat) (base : Nat), a ∈ arcsFrom L all leads base r t ↔ ∃ p ∈ triFrom base r t, a ∈ ruleArcs p.1 p.2.1 p.2.2 (0 :: 1 :: startsIn L p.1 all leads)
 | [], _, _ => by simp [arcsFrom, triFrom]
 | _ :: _, [], _ => by simp [arcsFrom, triFrom]
 | x :: r, l :: t, base => by
  simp only [arcsFrom, triFrom, List.mem_append, List.mem_cons, mem_arcsFrom r t (base + x.n - 1)]
  constructor
  ·rintro (h | ⟨p, hp, h⟩)
   ·exact ⟨_, .inl rfl, h⟩
   ·exact ⟨p, .inr hp, h⟩
  ·rintro ⟨p, rfl | hp, h⟩
   ·exact .inl h
   ·exact .inr ⟨p, hp, h⟩
theorem tri_ge : ∀ (r : List RulL) (t : List Nat) (base : Nat), (∀ z ∈ r, 1 ≤ z.n) → ∀ p ∈ triFrom base r t, base ≤ p.2.1
 | [], _, _, _, p, hp => by simp [triFrom] at hp
 | _ :: _, [], _, _, p, hp => by simp [triFrom] at hp
 | x :: r, l :: t, base, h, p, hp => by
  simp only [triFrom, List.mem_cons] at hp
  rcases hp with rfl | hp
  ·exact Nat.le_refl _
  ·have h1 := h x (List.mem_cons_self ..)
   have := tri_ge r t _ (fun z hz => h z (List.mem_cons_of_mem _ hz)) p hp
   omega
theorem tri_uniq : ∀ (r : List RulL) (t : List Nat) (base : Nat), (∀ z ∈ r, 1 ≤ z.n) → ∀ p ∈ triFrom base r t, ∀ q ∈ triFrom base r t, ∀ j k, j < p.1.n - 1 → k < q.1.n - 1 → p.2.1 + j = q.2.1 + k → p = q ∧ j = k
 | [], _, _, _, p, hp, _, _, _, _, _, _, _ => by simp [triFrom] at hp
 | _ :: _, [], _, _, p, hp, _, _, _, _, _, _, _ => by simp [triFrom] at hp
 | x :: r, l :: t, base, h, p, hp, q, hq, j, k, hj, hk, e => by
  have h1 := h x (List.mem_cons_self ..)
  have hr : ∀ z ∈ r, 1 ≤ z.n := fun z hz => h z (List.mem_cons_of_mem _ hz)
  simp only [triFrom, List.mem_cons] at hp hq
  rcases hp with rfl | hp <;> rcases hq with rfl | hq
  ·exact ⟨rfl, by simpa using e⟩
  ·have := tri_ge r t _ hr q hq
   simp only at hj e
   omega
  ·have := tri_ge r t _ hr p hp
   simp only at hk e
   omega
  ·exact tri_uniq r t _ hr p hp q hq j k hj hk e
theorem tri_zip : ∀ (r : List RulL) (t : List Nat) (base : Nat) (x : RulL) (l : Nat), (x, l) ∈ r.zip t ↔ ∃ b, (x, b, l) ∈ triFrom base r t
 | [], _, _, _, _ => by simp [triFrom]
 | _ :: _, [], _, _, _ => by simp [triFrom]
 | y :: r, m :: t, base, x, l => by
  simp only [triFrom, List.zip_cons_cons, List.mem_cons, tri_zip r t (base + y.n - 1) x l, Prod.mk.injEq]
  constructor
  ·rintro (⟨rfl, rfl⟩ | ⟨b, h⟩)
   ·exact ⟨base, .inl ⟨rfl, rfl, rfl⟩⟩
   ·exact ⟨b, .inr h⟩
  ·rintro ⟨b, ⟨rfl, _, rfl⟩ | h⟩
   ·exact .inl ⟨rfl, rfl⟩
   ·exact .inr ⟨b, h⟩
theorem lead_is : ∀ (l : List RulL) (k : Nat) (x : RulL) (s : Nat), (x, s) ∈ l.zip (leadsFrom k l) → (x.nxt = [] ∧ s = if x.fin then 2 else 1) ∨ (x.nxt ≠ [] ∧ k ≤ s)
 | [], _, _, _, h => by simp at h
 | y :: r, k, x, s, h => by
  simp only [leadsFrom] at h
  split at h
  ·rename_i hn
   simp only [List.zip_cons_cons, List.mem_cons, Prod.mk.injEq] at h
   rcases h with ⟨rfl, rfl⟩ | h
   ·exact .inl ⟨hn, rfl⟩
   ·exact lead_is r k x s h
  ·rename_i hn
   simp only [List.zip_cons_cons, List.mem_cons, Prod.mk.injEq] at h
   rcases h with ⟨rfl, rfl⟩ | h
   ·exact .inr ⟨hn, Nat.le_refl _⟩
   ·rcases lead_is r (k + 1) x s h with h | ⟨h1, h2⟩
    ·exact .inl h
    ·exact .inr ⟨h1, by omega⟩
theorem lead_uniq : ∀ (l : List RulL) (k : Nat), 3 ≤ k → ∀ x y s, (x, s) ∈ l.zip (leadsFrom k l) → (y, s) ∈ l.zip (leadsFrom k l) → 3 ≤ s → x = y
 | [], _, _, _, _, _, h, _, _ => by simp at h
 | z :: r, k, hk, x, y, s, hx, hy, hs => by
  simp only [leadsFrom] at hx hy
  split at hx
  ·rename_i hn
   rw [if_pos hn] at hy
   simp only [List.zip_cons_cons, List.mem_cons, Prod.mk.injEq] at hx hy
   have no : ¬ s = if z.fin then 2 else 1 := by split <;> omega
   rcases hx with ⟨_, e⟩ | hx
   ·exact absurd e no
   ·rcases hy with ⟨_, e⟩ | hy
    ·exact absurd e no
    ·exact lead_uniq r k hk x y s hx hy hs
  ·rename_i hn
   rw [if_neg hn] at hy
   simp only [List.zip_cons_cons, List.mem_cons, Prod.mk.injEq] at hx hy
   rcases hx with ⟨rfl, rfl⟩ | hx <;> rcases hy with ⟨rfl, e⟩ | hy
   ·rfl
   ·rcases lead_is r (s + 1) y s hy with ⟨_, e⟩ | ⟨_, e⟩
    ·split at e <;> omega
    ·omega
   ·rcases lead_is r (k + 1) x s hx with ⟨_, e'⟩ | ⟨_, e'⟩
    ·split at e' <;> omega
    ·omega
   ·exact lead_uniq r (k + 1) (by omega) x y s hx hy hs
theorem mem_startsIn {L : List (List UInt8)} {x : RulL} {s : Nat} : ∀ (a : List RulL) (t : List Nat), s ∈ startsIn L x a t ↔ ∃ o, (o, s) ∈ a.zip t ∧ begB L x o = true
 | [], _ => by simp [startsIn]
 | _ :: _, [] => by simp [startsIn]
 | o' :: r, s' :: t => by
  simp only [startsIn]
  split
  ·rename_i hb
   simp only [List.mem_cons, mem_startsIn r t, List.zip_cons_cons, Prod.mk.injEq]
   constructor
   ·rintro (rfl | ⟨o, h, h2⟩)
    ·exact ⟨o', .inl ⟨rfl, rfl⟩, hb⟩
    ·exact ⟨o, .inr h, h2⟩
   ·rintro ⟨o, ⟨rfl, rfl⟩ | h, h2⟩
    ·exact .inl rfl
    ·exact .inr ⟨o, h, h2⟩
  ·rename_i hb
   simp only [List.mem_cons, mem_startsIn r t, List.zip_cons_cons, Prod.mk.injEq]
   constructor
   ·rintro ⟨o, h, h2⟩
    exact ⟨o, .inr h, h2⟩
   ·rintro ⟨o, ⟨rfl, rfl⟩ | h, h2⟩
    ·exact absurd h2 hb
    ·exact ⟨o, h, h2⟩
theorem zip_mem {l : List RulL} {k : Nat} {x : RulL} (h : x ∈ l) : ∃ s, (x, s) ∈ l.zip (leadsFrom k l) := by
 obtain ⟨i, hi⟩ := List.mem_iff_getElem?.1 h
 have hl := leadsFrom_length k l
 have hi' := (List.getElem?_eq_some_iff.1 hi).1
 refine ⟨(leadsFrom k l)[i]'(by omega), List.mem_iff_getElem?.2 ⟨i, ?_⟩⟩
 rw [List.getElem?_zip_eq_some]
 exact ⟨hi, List.getElem?_eq_getElem (by omega)⟩

/-- A rule may stand behind others. -/
def NextR (L : List (List UInt8)) (rs : List RulL) (x : RulL) : Prop := ∀ o, rs.getLast? = some o → o.fin = false ∧ (o.nxt = [] ∨ begB L x o = true)
/-- Rules, one after the other. -/
inductive Chain (L : List (List UInt8)) (all : List RulL) : List RulL → Prop
 | nil : Chain L all []
 | snoc {rs : List RulL} {x : RulL} : Chain L all rs → x ∈ all → NextR L rs x → Chain L all (rs ++ [x])
def srcs (rs : List RulL) : List UInt8 := rs.flatMap RulL.src
def dsts (rs : List RulL) : List UInt8 := rs.flatMap RulL.dst
theorem srcs_snoc (rs : List RulL) (x : RulL) : srcs (rs ++ [x]) = srcs rs ++ x.src := by simp [srcs]
theorem dsts_snoc (rs : List RulL) (x : RulL) : dsts (rs ++ [x]) = dsts rs ++ x.dst := by simp [dsts]
theorem Chain.mem {L : List (List UInt8)} {all rs : List RulL} (h : Chain L all rs) : ∀ x ∈ rs, x ∈ all := by
 induction h with
 | nil => simp
 | snoc _ hx _ ih =>
  intro y hy
  rcases List.mem_append.1 hy with hy | hy
  ·exact ih y hy
  ·obtain rfl := List.mem_singleton.1 hy; exact hx
theorem Chain.last {L : List (List UInt8)} {all rs : List RulL} {x : RulL} (h : Chain L all (rs ++ [x])) : Chain L all rs ∧ x ∈ all ∧ NextR L rs x := by
 generalize hq : rs ++ [x] = q at h
 cases h with
 | nil => simp at hq
 | snoc h1 h2 h3 =>
  obtain ⟨e1, e2⟩ := List.append_inj' hq rfl
  simp only [List.cons.injEq, and_true] at e2
  subst e1 e2
  exact ⟨h1, h2, h3⟩

/-- The bytes of a text, but no zero. -/
def NoZero (l : List UInt8) : Prop := ∀ c ∈ l, c ≠ 0
theorem take_symb {l : List UInt8} (h : NoZero l) (j : Nat) : l.take j ++ symb (byteL l j) = l.take (j + 1) := by
 rcases Nat.lt_or_ge j l.length with hj | hj
 ·rw [List.take_add_one, List.getElem?_eq_getElem hj]
  unfold byteL
  rw [List.getElem?_eq_getElem hj]
  congr 1
  exact symb_byte (h _ (List.getElem_mem hj))
 ·rw [List.take_of_length_le hj, List.take_of_length_le (by omega)]
  unfold byteL
  rw [List.getElem?_eq_none hj]
  simp [symb_zero]
structure RulL.good (x : RulL) : Prop where
 n : 1 ≤ x.n
 src : NoZero x.src
 dst : NoZero x.dst
 fin : x.nxt ≠ [] → x.fin = false
theorem RulL.src_all (x : RulL) : x.src.take x.n = x.src := List.take_of_length_le (Nat.le_max_left _ _)
theorem RulL.dst_all (x : RulL) : x.dst.take x.n = x.dst := List.take_of_length_le (Nat.le_max_right _ _)

section
variable {L : List (List UInt8)} {all : List RulL}
/-- What is known where a way stands. -/
def InvW (L : List (List UInt8)) (all : List RulL) (s : Int) (x y : List UInt8) : Prop :=
 (s = 0 ∧ x = [] ∧ y = []) ∨
 (∃ rs o, ∃ l : Nat, Chain L all (rs ++ [o]) ∧ (o, l) ∈ all.zip (leadsFrom 3 all) ∧ s = (l : Int) ∧ x = srcs (rs ++ [o]) ∧ y = dsts (rs ++ [o])) ∨
 (∃ rs p, ∃ j : Nat, p ∈ triFrom (statesFrom 3 all) all (leadsFrom 3 all) ∧ j < p.1.n - 1 ∧ s = ((p.2.1 + j : Nat) : Int) ∧ Chain L all (rs ++ [p.1]) ∧ x = srcs rs ++ p.1.src.take (j + 1) ∧ y = dsts rs ++ p.1.dst.take (j + 1))
theorem lead_low {x : RulL} {s : Nat} (h : (x, s) ∈ all.zip (leadsFrom 3 all)) : 1 ≤ s ∧ s < statesFrom 3 all := by
 have h1 := leads_lt all 3 (Nat.le_refl _) s (List.of_mem_zip h).2
 rcases lead_is all 3 x s h with ⟨_, e⟩ | ⟨_, e⟩
 ·refine ⟨?_, h1⟩
  split at e <;> omega
 ·exact ⟨by omega, h1⟩
/-- Where an arc of a rule leads. -/
theorem InvW.arrive {rs : List RulL} {p : RulL × Nat × Nat} {x y : List UInt8} (j : Nat) (hp : p ∈ triFrom (statesFrom 3 all) all (leadsFrom 3 all)) (hc : Chain L all (rs ++ [p.1])) (hj : j < p.1.n)
  (hx : x = srcs rs ++ p.1.src.take (j + 1)) (hy : y = dsts rs ++ p.1.dst.take (j + 1)) : InvW L all (arcTo p.1 p.2.1 p.2.2 j) x y := by
 unfold arcTo
 split
 ·rename_i e
  refine .inr (.inl ⟨rs, p.1, p.2.2, hc, (tri_zip all (leadsFrom 3 all) (statesFrom 3 all) p.1 p.2.2).2 ⟨p.2.1, hp⟩, rfl, ?_, ?_⟩)
  ·rw [hx, e, RulL.src_all, srcs_snoc]
  ·rw [hy, e, RulL.dst_all, dsts_snoc]
 ·exact .inr (.inr ⟨rs, p, j, hp, by omega, by omega, hc, hx, hy⟩)
theorem walk_chain (hg : ∀ z ∈ all, z.good) {arcs : List Arc} (hm : ∀ a ∈ arcs, a ∈ compileArcs L all) {x y : List UInt8} {s : Int} (k : Walk arcs 0 x y s) : InvW L all s x y := by
 have h3 := statesFrom_ge all 3
 induction k with
 | nil => exact .inl ⟨rfl, rfl, rfl⟩
 | @snoc x y a _ ha ih =>
  obtain ⟨p, hp, hin⟩ := (mem_arcsFrom all (leadsFrom 3 all) (statesFrom 3 all)).1 (hm a ha)
  have hge := tri_ge all (leadsFrom 3 all) (statesFrom 3 all) (fun z hz => (hg z hz).n) p hp
  have hzip := (tri_zip all (leadsFrom 3 all) (statesFrom 3 all) p.1 p.2.2).2 ⟨p.2.1, hp⟩
  have hpa := (List.of_mem_zip hzip).1
  have hgp := hg _ hpa
  unfold ruleArcs at hin
  simp only [List.mem_append, List.mem_map, List.mem_range] at hin
  rcases hin with ⟨s0, hs0, rfl⟩ | ⟨j, hj, rfl⟩
  ·have hlow : s0 < statesFrom 3 all := by
    simp only [List.mem_cons] at hs0
    rcases hs0 with rfl | rfl | h
    ·omega
    ·omega
    ·obtain ⟨o, h, _⟩ := (mem_startsIn all (leadsFrom 3 all)).1 h
     exact (lead_low h).2
   have key : ∃ rs, NextR L rs p.1 ∧ Chain L all rs ∧ x = srcs rs ∧ y = dsts rs := by
    rcases ih with ⟨_, rfl, rfl⟩ | ⟨rs, o, l, hc, hz, e, rfl, rfl⟩ | ⟨rs, q, i, hq, hi, e, _⟩
    ·exact ⟨[], fun o h => by simp at h, .nil, rfl, rfl⟩
    ·refine ⟨rs ++ [o], fun o' h => ?_, hc, rfl, rfl⟩
     obtain rfl : o = o' := by simpa using h
     have e' : s0 = l := by
      have : ((s0 : Nat) : Int) = (l : Int) := e
      omega
     subst e'
     simp only [List.mem_cons] at hs0
     rcases lead_is all 3 o s0 hz with ⟨h1, h2⟩ | ⟨h1, h2⟩
     ·rcases hs0 with rfl | rfl | h
      ·exact absurd h2 (by split <;> omega)
      ·refine ⟨?_, .inl h1⟩
       cases hf : o.fin with
       | false => rfl
       | true => rw [hf] at h2; simp at h2
      ·exfalso
       obtain ⟨o', h3', h4⟩ := (mem_startsIn all (leadsFrom 3 all)).1 h
       have hne : o'.nxt ≠ [] := fun e => by
        unfold begB at h4
        rw [e] at h4
        simp [readL] at h4
       rcases lead_is all 3 o' s0 h3' with ⟨h5, _⟩ | ⟨_, h5⟩
       ·exact hne h5
       ·split at h2 <;> omega
     ·refine ⟨(hg o (hc.mem o (by simp))).fin h1, .inr ?_⟩
      rcases hs0 with rfl | rfl | h
      ·omega
      ·omega
      ·obtain ⟨o', h3', h4⟩ := (mem_startsIn all (leadsFrom 3 all)).1 h
       rw [lead_uniq all 3 (Nat.le_refl _) o o' s0 hz h3' h2]
       exact h4
    ·exfalso
     have h1 := tri_ge all (leadsFrom 3 all) (statesFrom 3 all) (fun z hz => (hg z hz).n) q hq
     have : ((s0 : Nat) : Int) = ((q.2.1 + i : Nat) : Int) := e
     omega
   obtain ⟨rs, hn, hc, rfl, rfl⟩ := key
   refine InvW.arrive 0 hp (.snoc hc hpa hn) hgp.n ?_ ?_
   ·rw [← take_symb hgp.src]; rfl
   ·rw [← take_symb hgp.dst]; rfl
  ·rcases ih with ⟨e, _⟩ | ⟨rs, o, l, hc, hz, e, _⟩ | ⟨rs, q, i, hq, hi, e, hc, rfl, rfl⟩
   ·exfalso
    have : ((p.2.1 : Nat) : Int) + (j : Int) = 0 := e
    omega
   ·exfalso
    have h1 := (lead_low hz).2
    have : ((p.2.1 : Nat) : Int) + (j : Int) = (l : Int) := e
    omega
   ·have e' : ((p.2.1 : Nat) : Int) + (j : Int) = ((q.2.1 + i : Nat) : Int) := e
    obtain ⟨rfl, rfl⟩ := tri_uniq all (leadsFrom 3 all) (statesFrom 3 all) (fun z hz => (hg z hz).n) p hp q hq j i hj hi (by omega)
    refine InvW.arrive (j + 1) hp hc (by omega) ?_ ?_
    ·rw [← take_symb hgp.src (j + 1), List.append_assoc]; rfl
    ·rw [← take_symb hgp.dst (j + 1), List.append_assoc]; rfl
/-- A rule's own way. -/
theorem rule_walk (hg : ∀ z ∈ all, z.good) {arcs : List Arc} (hm : ∀ a ∈ compileArcs L all, a ∈ arcs) {p : RulL × Nat × Nat} (hp : p ∈ triFrom (statesFrom 3 all) all (leadsFrom 3 all)) {s0 : Nat} (hs : s0 ∈ 0 :: 1 :: startsIn L p.1 all (leadsFrom 3 all))
  {x y : List UInt8} (k : Walk arcs 0 x y (s0 : Int)) : ∀ j, j < p.1.n → Walk arcs 0 (x ++ p.1.src.take (j + 1)) (y ++ p.1.dst.take (j + 1)) (arcTo p.1 p.2.1 p.2.2 j) := by
 have hpa := (List.of_mem_zip ((tri_zip all (leadsFrom 3 all) (statesFrom 3 all) p.1 p.2.2).2 ⟨p.2.1, hp⟩)).1
 have hgp := hg _ hpa
 have hin : ∀ a, a ∈ ruleArcs p.1 p.2.1 p.2.2 (0 :: 1 :: startsIn L p.1 all (leadsFrom 3 all)) → a ∈ arcs := fun a ha => hm a ((mem_arcsFrom all (leadsFrom 3 all) (statesFrom 3 all)).2 ⟨p, hp, ha⟩)
 intro j
 induction j with
 | zero =>
  intro _
  refine Walk.more k (hin (arcAt p.1 p.2.1 p.2.2 0 (s0 : Int)) ?_) ?_ ?_
  ·unfold ruleArcs
   exact List.mem_append.2 (.inl (List.mem_map.2 ⟨s0, hs, rfl⟩))
  ·rw [← take_symb hgp.src]; rfl
  ·rw [← take_symb hgp.dst]; rfl
 | succ j ih =>
  intro hj
  have h1 := ih (by omega)
  rw [show arcTo p.1 p.2.1 p.2.2 j = (p.2.1 : Int) + (j : Int) by unfold arcTo; rw [if_neg (by omega)]] at h1
  refine Walk.more h1 (hin (arcAt p.1 p.2.1 p.2.2 (j + 1) ((p.2.1 : Int) + (j : Int))) ?_) ?_ ?_
  ·unfold ruleArcs
   exact List.mem_append.2 (.inr (List.mem_map.2 ⟨j, List.mem_range.2 (by omega), rfl⟩))
  ·rw [← take_symb hgp.src (j + 1), List.append_assoc]
  ·rw [← take_symb hgp.dst (j + 1), List.append_assoc]
theorem chain_walk (hg : ∀ z ∈ all, z.good) {arcs : List Arc} (hm : ∀ a ∈ compileArcs L all, a ∈ arcs) {rs : List RulL} (h : Chain L all rs) :
  (rs = [] → Walk arcs 0 (srcs rs) (dsts rs) 0) ∧ ∀ o l, rs.getLast? = some o → (o, l) ∈ all.zip (leadsFrom 3 all) → Walk arcs 0 (srcs rs) (dsts rs) ((l : Nat) : Int) := by
 induction h with
 | nil => exact ⟨fun _ => .nil, fun o l h => by simp at h⟩
 | @snoc rs x hc hx hn ih =>
  refine ⟨fun e => by simp at e, fun o l ho hz => ?_⟩
  obtain rfl : x = o := by simpa using ho
  obtain ⟨b, hp⟩ := (tri_zip all (leadsFrom 3 all) (statesFrom 3 all) x l).1 hz
  have hst : ∃ s0 : Nat, s0 ∈ 0 :: 1 :: startsIn L x all (leadsFrom 3 all) ∧ Walk arcs 0 (srcs rs) (dsts rs) (s0 : Int) := by
   cases hl : rs.getLast? with
   | none =>
    have e : rs = [] := by simpa using hl
    exact ⟨0, by simp, ih.1 e⟩
   | some o =>
    obtain ⟨hf, hb⟩ := hn o hl
    obtain ⟨s, hs⟩ := zip_mem (k := 3) (hc.mem o (List.mem_of_getLast? hl))
    refine ⟨s, ?_, ih.2 o s hl hs⟩
    rcases lead_is all 3 o s hs with ⟨h1, h2⟩ | ⟨h1, h2⟩
    ·rw [hf] at h2
     simp at h2
     simp [h2]
    ·rcases hb with hb | hb
     ·exact absurd hb h1
     ·exact List.mem_cons_of_mem _ (List.mem_cons_of_mem _ ((mem_startsIn all (leadsFrom 3 all)).2 ⟨o, hs, hb⟩))
  obtain ⟨s0, h0, hw⟩ := hst
  have hgx := (hg x hx).n
  have := rule_walk hg hm hp h0 hw (x.n - 1) (by show x.n - 1 < x.n; omega)
  simp only at this
  rw [show x.n - 1 + 1 = x.n by omega, RulL.src_all, RulL.dst_all, show arcTo x b l (x.n - 1) = (l : Int) by unfold arcTo; rw [if_pos (by omega)]] at this
  rw [srcs_snoc, dsts_snoc]
  exact this
end
theorem rul_good {x : Rul} (h : x.ok) : x.l.good := by
 have nz : ∀ {l : List UInt8}, printB l = true → NoZero l := fun h c hc e => by
  have := List.all_eq_true.1 h c hc
  rw [e] at this
  simp [printC] at this
 refine ⟨(rul_n h).2, nz h.1.1, nz h.2.1.1, fun hn => ?_⟩
 cases hf : x.l.fin with
 | false => rfl
 | true => exact absurd ⟨hf, hn⟩ h.2.2.2
/-- The results of a compiled machine: what rules, one after the other, write. -/
theorem compiled_result {R : Ruls} {A : Alph} {M : Mach} (hM : CompileOf R A M) (hF : Formed11 R) {x : List UInt8} {t : ByteArray} :
  Result M x t ↔ ∃ rs o, Chain A.bls (R.list.map Rul.l) (rs ++ [o]) ∧ o.nxt = [] ∧ x = srcs (rs ++ [o]) ∧ bl t = dsts (rs ++ [o]) := by
 have hv := compiled_valid hM hF
 have hg : ∀ z ∈ R.list.map Rul.l, z.good := fun z hz => by
  obtain ⟨r, hr, rfl⟩ := List.mem_map.1 hz
  exact rul_good (hF.2.2.2.2.1 r hr)
 have h3 := statesFrom_ge (R.list.map Rul.l) 3
 rw [result_iff (fun a ha => (hv.arcs a ha).2.2.1), hM.start, hM.final]
 constructor
 ·rintro ⟨s, hs, hw⟩
  have hs' : s = 1 ∨ s = 2 := by simpa using hs
  rcases walk_chain hg (fun a ha => (hM.mem a).1 ha) hw with ⟨e, _⟩ | ⟨rs, o, l, hc, hz, e, h1, h2⟩ | ⟨rs, p, j, hp, hj, e, _⟩
  ·omega
  ·refine ⟨rs, o, hc, ?_, h1, h2⟩
   rcases lead_is _ 3 o l hz with ⟨h, _⟩ | ⟨_, h⟩
   ·exact h
   ·omega
  ·have := tri_ge (R.list.map Rul.l) (leadsFrom 3 (R.list.map Rul.l)) (statesFrom 3 (R.list.map Rul.l)) (fun z hz => (hg z hz).n) p hp
   omega
 ·rintro ⟨rs, o, hc, hn, h1, h2⟩
  obtain ⟨s, hs⟩ := zip_mem (k := 3) (hc.mem o (by simp))
  refine ⟨(s : Int), ?_, ?_⟩
  ·rcases lead_is _ 3 o s hs with ⟨_, h⟩ | ⟨h, _⟩
   ·split at h <;> simp [h]
   ·exact absurd hn h
  ·rw [h1, h2]
   exact (chain_walk hg (fun a ha => (hM.mem a).2 ha) hc).2 o s (by simp) hs
end Go.Proofs.YtabocamjaecaaaaGreatDoor
