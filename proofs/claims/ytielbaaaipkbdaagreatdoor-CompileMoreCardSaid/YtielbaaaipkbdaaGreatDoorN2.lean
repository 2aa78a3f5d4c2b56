/- Plain words: the machine of all rules but the last one leads where that of all rules leads. No program in sight. -/
import Derived.Test.YtielbaaaipkbdaaGreatDoorW13b
import Derived.Test.YtielbaaaipkbdaaGreatDoorGP
namespace Go.Proofs.YtielbaaaipkbdaaGreatDoor
open Go Classical

def phi (S d : Nat) (z : Int) : Int := if z < (S : Int) then z else z + d
def Arc.mapS (f : Int → Int) (a : Arc) : Arc := ⟨f a.frm, a.inp, a.out, f a.to⟩

theorem startsIn_more {L : List (List UInt8)} {x o : RulL} {u s : Nat} : ∀ {a : List RulL} {t : List Nat}, s ∈ startsIn L x a t → s ∈ startsIn L x (a ++ [o]) (t ++ [u])
  | [], _, h => by simp [startsIn] at h
  | _ :: _, [], h => by simp [startsIn] at h
  | o' :: r, s' :: t, h => by
    simp only [startsIn, List.cons_append] at h ⊢
    split
    · rename_i hb
      rw [if_pos hb, List.mem_cons] at h
      rcases h with rfl | h
      · exact List.mem_cons_self ..
      · exact List.mem_cons_of_mem _ (startsIn_more h)
    · rename_i hb
      rw [if_neg hb] at h
      exact startsIn_more h
theorem startsIn_mem {L : List (List UInt8)} {x : RulL} {s : Nat} : ∀ {a : List RulL} {t : List Nat}, s ∈ startsIn L x a t → s ∈ t
  | [], _, h => by simp [startsIn] at h
  | _ :: _, [], h => by simp [startsIn] at h
  | o' :: r, s' :: t, h => by
    simp only [startsIn] at h
    split at h
    · rw [List.mem_cons] at h
      rcases h with rfl | h
      · exact List.mem_cons_self ..
      · exact List.mem_cons_of_mem _ (startsIn_mem h)
    · exact List.mem_cons_of_mem _ (startsIn_mem h)
theorem statesFrom_ge : ∀ (l : List RulL) (k : Nat), k ≤ statesFrom k l
  | [], k => Nat.le_refl _
  | x :: r, k => by
    simp only [statesFrom]
    split
    · exact statesFrom_ge r k
    · exact Nat.le_trans (Nat.le_succ k) (statesFrom_ge r (k + 1))
theorem leads_lt : ∀ (l : List RulL) (k : Nat), 3 ≤ k → ∀ s ∈ leadsFrom k l, s < statesFrom k l
  | [], _, _, _, h => by simp [leadsFrom] at h
  | x :: r, k, hk, s, h => by
    simp only [leadsFrom, statesFrom] at h ⊢
    split
    · rename_i hx
      rw [if_pos hx, List.mem_cons] at h
      rcases h with rfl | h
      · have := statesFrom_ge r k
        split <;> omega
      · exact leads_lt r k hk s h
    · rename_i hx
      rw [if_neg hx, List.mem_cons] at h
      rcases h with rfl | h
      · exact statesFrom_ge r (s + 1)
      · exact leads_lt r (k + 1) (by omega) s h

theorem arcTo_more (x : RulL) {S base lead : Nat} (d j : Nat) (hb : S ≤ base) (hl : lead < S) : phi S d (arcTo x base lead j) = arcTo x (base + d) lead j := by
  unfold arcTo phi
  split
  · rw [if_pos (by omega)]
  · rw [if_neg (by omega)]; omega
theorem ruleArcs_more {x : RulL} {base lead : Nat} {st st' : List Nat} {S d : Nat} (hb : S ≤ base) (hl : lead < S) (hs : ∀ s ∈ st, s < S ∧ s ∈ st') {y : Arc} (hy : y ∈ ruleArcs x base lead st) :
    y.mapS (phi S d) ∈ ruleArcs x (base + d) lead st' := by
  unfold ruleArcs at hy ⊢
  simp only [List.mem_append, List.mem_map, List.mem_range] at hy ⊢
  rcases hy with ⟨s, hs', rfl⟩ | ⟨j, hj, rfl⟩
  · refine .inl ⟨s, (hs s hs').2, ?_⟩
    have h1 := (hs s hs').1
    have h2 : phi S d (s : Int) = s := by unfold phi; rw [if_pos (by omega)]
    simp only [arcAt, Arc.mapS, arcTo_more x d _ hb hl, h2]
  · refine .inr ⟨j, hj, ?_⟩
    have h2 : phi S d ((base : Int) + j) = ((base + d : Nat) : Int) + j := by unfold phi; rw [if_neg (by omega)]; omega
    simp only [arcAt, Arc.mapS, arcTo_more x d _ hb hl, h2]
theorem arcsFrom_more {L : List (List UInt8)} {all all' : List RulL} {leads leads' : List Nat} {S d u : Nat} {x : RulL} (hS : 2 ≤ S) (hst : ∀ z s, s ∈ startsIn L z all leads → s < S ∧ s ∈ startsIn L z all' leads') {y : Arc} :
    ∀ (r : List RulL) (t : List Nat) (base : Nat), S ≤ base → (∀ z ∈ r, 1 ≤ z.n) → (∀ s ∈ t, s < S) → y ∈ arcsFrom L all leads base r t → y.mapS (phi S d) ∈ arcsFrom L all' leads' (base + d) (r ++ [x]) (t ++ [u])
  | [], _, _, _, _, _, h => by simp [arcsFrom] at h
  | _ :: _, [], _, _, _, _, h => by simp [arcsFrom] at h
  | z :: r, l :: t, base, hb, hn, ht, h => by
    simp only [arcsFrom, List.cons_append, List.mem_append] at h ⊢
    have h1 := hn z (List.mem_cons_self ..)
    rcases h with h | h
    · refine .inl (ruleArcs_more hb (ht l (List.mem_cons_self ..)) (fun s hs => ?_) h)
      simp only [List.mem_cons] at hs ⊢
      rcases hs with rfl | rfl | hs
      · exact ⟨by omega, .inl rfl⟩
      · exact ⟨by omega, .inr (.inl rfl)⟩
      · exact ⟨(hst z s hs).1, .inr (.inr (hst z s hs).2)⟩
    · have := arcsFrom_more (x := x) (u := u) (d := d) hS hst r t (base + z.n - 1) (by omega) (fun z hz => hn z (List.mem_cons_of_mem _ hz)) (fun s hs => ht s (List.mem_cons_of_mem _ hs)) h
      rw [show base + d + z.n - 1 = base + z.n - 1 + d by omega]
      exact .inr this
/-- The arcs of all rules but the last one are, but for their states' numbers, arcs of all rules. -/
theorem compile_more (L : List (List UInt8)) (l : List RulL) (x : RulL) (hn : ∀ z ∈ l, 1 ≤ z.n) :
    ∃ d, ∀ y ∈ compileArcs L l, y.mapS (phi (statesFrom 3 l) d) ∈ compileArcs L (l ++ [x]) := by
  have h3 := statesFrom_ge l 3
  unfold compileArcs
  rw [leadsFrom_snoc, statesFrom_snoc]
  have hst : ∀ (u : Nat) (z : RulL) (s : Nat), s ∈ startsIn L z l (leadsFrom 3 l) → s < statesFrom 3 l ∧ s ∈ startsIn L z (l ++ [x]) (leadsFrom 3 l ++ [u]) :=
    fun u z s h => ⟨leads_lt l 3 (by omega) s (startsIn_mem h), startsIn_more h⟩
  by_cases hx : x.nxt = []
  · rw [if_pos hx, if_pos hx]
    exact ⟨0, fun y hy => arcsFrom_more (d := 0) (by omega) (hst _) l _ _ (Nat.le_refl _) hn (leads_lt l 3 (by omega)) hy⟩
  · rw [if_neg hx, if_neg hx]
    exact ⟨1, fun y hy => arcsFrom_more (d := 1) (by omega) (hst _) l _ _ (Nat.le_refl _) hn (leads_lt l 3 (by omega)) hy⟩

/-- A machine whose arcs, with other numbers of the states, are another one's. -/
structure Into (N M : Mach) (f : Int → Int) : Prop where
  start : f N.start = M.start
  arcs : ∀ y ∈ N.arcs, y.mapS f ∈ M.arcs
  final : ∀ s ∈ N.final, f s ∈ M.final
def Plc.mapS (f : Int → Int) (p : Plc) : Plc := ⟨f p.st, p.tx⟩
theorem Into.goes {N M : Mach} {f : Int → Int} (h : Into N M f) {c : Int} {p q : Plc} (hg : Goes N c p q) : Goes M c (p.mapS f) (q.mapS f) := by
  obtain ⟨a, ha, e1, e2, rfl⟩ := hg
  exact ⟨a.mapS f, h.arcs a ha, by simp [Arc.mapS, Plc.mapS, e1], e2, rfl⟩
theorem Into.cl {N M : Mach} {f : Int → Int} (h : Into N M f) {S T : Plc → Prop} (hS : ∀ p, S p → T (p.mapS f)) {p : Plc} (hp : Cl N S p) : Cl M T (p.mapS f) := by
  induction hp with
  | base h0 => exact .base (hS _ h0)
  | more _ hg ih => exact .more ih (h.goes hg)
theorem Into.reach {N M : Mach} {f : Int → Int} (h : Into N M f) (k : Nat) : ∀ (l : List UInt8), l.length = k → ∀ p, Reach N l p → Reach M l (p.mapS f) := by
  induction k with
  | zero =>
    intro l hl p hp
    obtain rfl := List.length_eq_zero_iff.1 hl
    rw [Reach_nil] at hp ⊢
    exact h.cl (fun q hq => by subst hq; simp [Plc.mapS, h.start]) hp
  | succ k ih =>
    intro l hl p hp
    have hne : l ≠ [] := by intro e; subst e; simp at hl
    obtain ⟨l', b, rfl⟩ : ∃ l' b, l = l' ++ [b] := ⟨l.dropLast, l.getLast hne, (List.dropLast_concat_getLast hne).symm⟩
    by_cases hb : b = 0
    · subst hb
      unfold Reach at hp
      rw [List.foldl_append] at hp
      simp at hp
    · rw [Reach_snoc _ _ _ hb] at hp ⊢
      have hl' : l'.length = k := by simpa using hl
      refine h.cl (fun q hq => ?_) hp
      unfold Setout at hq ⊢
      split
      · rename_i e; rw [if_pos e] at hq; exact ih l' hl' q hq
      · rename_i e; rw [if_neg e] at hq
        obtain ⟨q', h1, h2⟩ := hq
        exact ⟨_, ih l' hl' q' h1, h.goes h2⟩
theorem Into.result {N M : Mach} {f : Int → Int} (h : Into N M f) {x : List UInt8} {t : ByteArray} (hr : Result N x t) : Result M x t := by
  obtain ⟨h0, s, hs, hp⟩ := hr
  exact ⟨h0, f s, h.final s hs, h.reach _ x rfl _ hp⟩

theorem more_plain {R R' : Ruls} {A : Alph} {M N : Mach} {x : Rul} (hM : CompileOf R A M) (hN : CompileOf R' A N) (hl : R.list = R'.list ++ [x]) (hn : ∀ r ∈ R'.list, 1 ≤ r.l.n) {w : List UInt8} {t : ByteArray} (h : Result N w t) : Result M w t := by
  obtain ⟨d, hd⟩ := compile_more A.bls (R'.list.map Rul.l) x.l (fun z hz => by obtain ⟨r, hr, rfl⟩ := List.mem_map.1 hz; exact hn r hr)
  have h3 := statesFrom_ge (R'.list.map Rul.l) 3
  refine Into.result (f := phi (statesFrom 3 (R'.list.map Rul.l)) d) ⟨?_, fun y hy => ?_, fun s hs => ?_⟩ h
  · rw [hN.start, hM.start]; unfold phi; rw [if_pos (by omega)]
  · rw [hM.mem, hl, List.map_append]
    exact hd y ((hN.mem y).1 hy)
  · rw [hN.final] at hs
    rw [hM.final]
    simp only [List.mem_cons, List.not_mem_nil, or_false] at hs ⊢
    rcases hs with rfl | rfl
    · left; unfold phi; rw [if_pos (by omega)]
    · right; unfold phi; rw [if_pos (by omega)]
end Go.Proofs.YtielbaaaipkbdaaGreatDoor
