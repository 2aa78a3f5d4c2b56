/- Plain words: marks that are spread along pairs; the machine without states that are not needed. No program in sight. -/
import Derived.Test.YtabocamjaecaaaaGreatDoorGH
namespace Go.Proofs.YtabocamjaecaaaaGreatDoor
open Go Classical

/-- A pair leads from a state to another. -/
def Pr (l : List (Int × Int)) (s t : Int) : Prop := (s, t) ∈ l
def nexts (l : List (Int × Int)) (s : Int) : List Int := (l.filter (fun p => decide (p.1 = s))).map (·.2)
theorem mem_nexts {l : List (Int × Int)} {s t : Int} : t ∈ nexts l s ↔ Pr l s t := by
 unfold nexts Pr
 simp only [List.mem_map, List.mem_filter, decide_eq_true_eq]
 constructor
 ·rintro ⟨⟨a, b⟩, ⟨h1, h2⟩, h3⟩; simp only at h2 h3; subst h2 h3; exact h1
 ·intro h; exact ⟨(s, t), ⟨h, rfl⟩, rfl⟩
/-- Whether a state is marked. -/
def Mk (xs : List Bool) (u : Nat) : Prop := xs[u]? = some true
theorem Mk.lt {xs : List Bool} {u : Nat} (h : Mk xs u) : u < xs.length := (List.getElem?_eq_some_iff.1 h).1
theorem mk_set {xs : List Bool} {t u : Nat} (ht : t < xs.length) : Mk (xs.set t true) u ↔ u = t ∨ Mk xs u := by
 unfold Mk
 rw [List.getElem?_set]
 by_cases h : t = u
 ·subst h; simp [ht]
 ·rw [if_neg h]
  constructor
  ·exact .inr
  ·rintro (e | h1)
   ·exact absurd e.symm h
   ·exact h1
/-- What visiting a state has done so far: the states in pre are marked. -/
structure Spr (l : List (Int × Int)) (xs : List Bool) (s : Nat) (pre : List Int) (ys : List Bool) : Prop where
 len : ys.length = xs.length
 up : ∀ u, Mk xs u → Mk ys u
 new : ∀ u, Mk ys u → Mk xs u ∨ Way (Pr l) s u
 closed : ∀ u, Mk ys u → ¬ Mk xs u → ∀ t, Pr l (u : Int) t → Mk ys t.toNat
 self : ∀ t ∈ pre, Mk ys t.toNat
theorem Spr.start (l : List (Int × Int)) (xs : List Bool) (s : Nat) : Spr l xs s [] xs :=
 ⟨rfl, fun _ h => h, fun _ h => .inl h, fun _ h hn => absurd h hn, fun t h => by simp at h⟩
theorem Spr.old {l : List (Int × Int)} {xs ys : List Bool} {s : Nat} {pre : List Int} (h : Spr l xs s pre ys) {t : Int} (ht : Mk ys t.toNat) : Spr l xs s (pre ++ [t]) ys :=
 ⟨h.len, h.up, h.new, h.closed, fun u hu => by
  rcases List.mem_append.1 hu with h1 | h1
  ·exact h.self u h1
  ·obtain rfl : u = t := by simpa using h1
   exact ht⟩
theorem Spr.next {l : List (Int × Int)} {xs ys zs : List Bool} {s t : Nat} {pre : List Int} (h : Spr l xs s pre ys) (ht : t < ys.length) (hp : Pr l s t) (k : Spr l (ys.set t true) t (nexts l t) zs) : Spr l xs s (pre ++ [(t : Int)]) zs := by
 have up : ∀ u, Mk ys u → Mk zs u := fun u hu => k.up u ((mk_set ht).2 (.inr hu))
 have hzt : Mk zs t := k.up t ((mk_set ht).2 (.inl rfl))
 refine ⟨by rw [k.len, List.length_set, h.len], fun u hu => up u (h.up u hu), fun u hu => ?_, fun u hu hn v hv => ?_, fun u hu => ?_⟩
 ·rcases k.new u hu with h1 | h1
  ·rcases (mk_set ht).1 h1 with rfl | h1
   ·exact .inr (.one hp)
   ·exact h.new u h1
  ·exact .inr ((Way.one hp).trans h1)
 ·by_cases h1 : Mk (ys.set t true) u
  ·rcases (mk_set ht).1 h1 with rfl | h1
   ·exact k.self v (mem_nexts.2 hv)
   ·exact up _ (h.closed u h1 hn v hv)
  ·exact k.closed u hu h1 v hv
 ·rcases List.mem_append.1 hu with h1 | h1
  ·exact up _ (h.self u h1)
  ·obtain rfl : u = (t : Int) := by simpa using h1
   simpa using hzt

/-- What spreading has done when the states below i were visited. -/
structure SprOut (l : List (Int × Int)) (xs : List Bool) (i : Nat) (ys : List Bool) : Prop where
 len : ys.length = xs.length
 up : ∀ u, Mk xs u → Mk ys u
 new : ∀ u, Mk ys u → ∃ s : Nat, Mk xs s ∧ WayR (Pr l) s u
 closed : ∀ u, Mk ys u → (Mk xs u → u < i) → ∀ t, Pr l (u : Int) t → Mk ys t.toNat
theorem SprOut.start (l : List (Int × Int)) (xs : List Bool) : SprOut l xs 0 xs :=
 ⟨rfl, fun _ h => h, fun u h => ⟨u, h, .inl rfl⟩, fun _ h hn => absurd (hn h) (Nat.not_lt_zero _)⟩
theorem SprOut.skip {l : List (Int × Int)} {xs ys : List Bool} {i : Nat} (h : SprOut l xs i ys) (hi : ¬ Mk ys i) : SprOut l xs (i + 1) ys :=
 ⟨h.len, h.up, h.new, fun u hu hn => h.closed u hu (fun hx => by
  have := hn hx
  rcases Nat.lt_succ_iff_lt_or_eq.1 this with h1 | rfl
  ·exact h1
  ·exact absurd hu hi)⟩
/-- Marks that are spread: all that is reached is marked. -/
def Spread (l : List (Int × Int)) (xs ys : List Bool) : Prop := ys.length = xs.length ∧ ∀ u : Nat, Mk ys u ↔ ∃ s : Nat, Mk xs s ∧ WayR (Pr l) s u
theorem SprOut.all {l : List (Int × Int)} {xs ys : List Bool} (h : SprOut l xs xs.length ys) (hl : ∀ p ∈ l, 0 ≤ p.1 ∧ 0 ≤ p.2) : Spread l xs ys := by
 refine ⟨h.len, fun u => ⟨h.new u, ?_⟩⟩
 have hc : ∀ u, Mk ys u → ∀ t, Pr l (u : Int) t → Mk ys t.toNat := fun u hu => h.closed u hu (fun hx => hx.lt)
 have hw : ∀ (s : Nat) (v : Int), Mk ys s → Way (Pr l) s v → 0 ≤ v ∧ Mk ys v.toNat := fun s v hs hv => by
  induction hv with
  | one h1 => exact ⟨(hl _ h1).2, hc s hs _ h1⟩
  | more _ h1 ih =>
   obtain ⟨i1, i2⟩ := ih
   refine ⟨(hl _ h1).2, hc _ i2 _ ?_⟩
   rw [Int.toNat_of_nonneg i1]; exact h1
 rintro ⟨s, hs, e | hv⟩
 ·obtain rfl : s = u := by omega
  exact h.up s hs
 ·have := (hw s u (h.up s hs) hv).2
  simpa using this

/-- An arc leads from a state to another. -/
def Ar (M : Mach) (s t : Int) : Prop := ∃ a ∈ M.arcs, a.frm = s ∧ a.to = t
def Fwd (M : Mach) (u : Int) : Prop := WayR (Ar M) M.start u
def Bwd (M : Mach) (u : Int) : Prop := ∃ s ∈ M.final, WayR (Ar M) u s
/-- A state that is needed. -/
def Kept (M : Mach) (u : Int) : Prop := u = M.start ∨ (Fwd M u ∧ Bwd M u)
/-- How many states below some number are needed. -/
noncomputable def numK (M : Mach) (s : Nat) : Nat := ((List.range s).filter (fun u : Nat => decide (Kept M (u : Int)))).length
theorem numK_succ (M : Mach) (s : Nat) : numK M (s + 1) = numK M s + if Kept M (s : Int) then 1 else 0 := by
 unfold numK
 rw [List.range_succ, List.filter_append, List.length_append]
 congr 1
 by_cases h : Kept M (s : Int) <;> simp [h]
theorem numK_mono (M : Mach) {s t : Nat} (h : s ≤ t) : numK M s ≤ numK M t := by
 induction h with
 | refl => exact Nat.le_refl _
 | step _ ih => rw [numK_succ]; omega
theorem numK_lt (M : Mach) {s t : Nat} (h : s < t) (hk : Kept M (s : Int)) : numK M s < numK M t := by
 have h1 := numK_succ M s
 rw [if_pos hk] at h1
 have := numK_mono M (show s + 1 ≤ t from h)
 omega
theorem numK_le (M : Mach) (s : Nat) : numK M s ≤ s := by
 unfold numK
 have := List.length_filter_le (fun u : Nat => decide (Kept M (u : Int))) (List.range s)
 rwa [List.length_range] at this
/-- The new number of a state. -/
noncomputable def numI (M : Mach) (s : Int) : Int := (numK M s.toNat : Nat)
noncomputable def Arc.num (M : Mach) (a : Arc) : Arc := ⟨numI M a.frm, a.inp, a.out, numI M a.to⟩
/-- The machine without states that are not needed. -/
noncomputable def trimM (M : Mach) : Mach :=
 ⟨numI M M.states, numI M M.start, (M.final.filter (fun s => decide (Kept M s))).map (numI M), (M.arcs.filter (fun a => decide (Kept M a.frm ∧ Kept M a.to))).map (Arc.num M)⟩

theorem numI_lt {M : Mach} {s t : Int} (h0 : 0 ≤ s) (h : s < t) (hk : Kept M s) : numI M s < numI M t := by
 unfold numI
 have := numK_lt M (s := s.toNat) (t := t.toNat) (by omega) (by rw [Int.toNat_of_nonneg h0]; exact hk)
 omega
theorem numI_inj {M : Mach} {s t : Int} (h0 : 0 ≤ s) (h1 : 0 ≤ t) (hs : Kept M s) (ht : Kept M t) (e : numI M s = numI M t) : s = t := by
 rcases Int.lt_trichotomy s t with h | h | h
 ·have := numI_lt h0 h hs; omega
 ·exact h
 ·have := numI_lt h1 h ht; omega
theorem trim_valid {M : Mach} (h : ValidM M) : ValidM (trimM M) := by
 have hst := h.start
 have hN : ∀ s, StateOk M.states s → Kept M s → StateOk (trimM M).states (numI M s) := fun s hs hk => ⟨by unfold numI; omega, numI_lt hs.1 hs.2 hk⟩
 have hks : Kept M M.start := .inl rfl
 have h1 := hN _ hst hks
 refine ⟨?_, ?_, h1, ?_, fun s hs => ?_, ?_, fun a ha => ?_, ?_⟩
 ·have := h1.1; have := h1.2; show 1 ≤ (trimM M).states; omega
 ·have := numK_le M M.states.toNat
  have := h.most
  show ((numK M M.states.toNat : Nat) : Int) ≤ 4000
  have := h.one
  omega
 ·show ((M.arcs.filter _).map _).length ≤ 20000
  rw [List.length_map]
  exact Nat.le_trans (List.length_filter_le _ _) h.arcsLen
 ·obtain ⟨u, hu, rfl⟩ := List.mem_map.1 hs
  obtain ⟨hu1, hu2⟩ := List.mem_filter.1 hu
  exact hN u (h.final u hu1) (by simpa using hu2)
 ·show ((M.final.filter _).map _).Pairwise _
  rw [List.pairwise_map, List.pairwise_filter]
  refine List.Pairwise.imp_of_mem (fun {a b} ha hb hab hka hkb => ?_) h.inc
  exact numI_lt (h.final a ha).1 hab (by simpa using hka)
 ·obtain ⟨b, hb, rfl⟩ := List.mem_map.1 ha
  obtain ⟨hb1, hb2⟩ := List.mem_filter.1 hb
  obtain ⟨k1, k2⟩ : Kept M b.frm ∧ Kept M b.to := by simpa using hb2
  obtain ⟨q1, q2, q3, q4⟩ := h.arcs b hb1
  exact ⟨hN _ q1 k1, hN _ q2 k2, q3, q4⟩
 ·show Increasing ((M.arcs.filter _).map _)
  unfold Increasing
  rw [List.pairwise_map, List.pairwise_filter]
  refine List.Pairwise.imp_of_mem (fun {a b} ha hb hab hka hkb => ?_) h.arcsInc
  obtain ⟨k1, k2⟩ : Kept M a.frm ∧ Kept M a.to := by simpa using hka
  obtain ⟨k3, k4⟩ : Kept M b.frm ∧ Kept M b.to := by simpa using hkb
  obtain ⟨⟨p1, _⟩, ⟨p2, _⟩, _⟩ := h.arcs a ha
  obtain ⟨⟨p3, _⟩, ⟨p4, _⟩, _⟩ := h.arcs b hb
  simp only [Arc.lt, Arc.num] at hab ⊢
  rcases hab with hab | ⟨e1, hab⟩
  ·exact .inl (numI_lt p1 hab k1)
  ·refine .inr ⟨by rw [e1], ?_⟩
   rcases hab with hab | ⟨e2, hab⟩
   ·exact .inl hab
   ·refine .inr ⟨e2, ?_⟩
    rcases hab with hab | ⟨e3, hab⟩
    ·exact .inl hab
    ·exact .inr ⟨e3, numI_lt p2 hab k2⟩

theorem walk_way {M : Mach} {s t : Int} {x y : List UInt8} (h : Walk M.arcs s x y t) : WayR (Ar M) s t := by
 induction h with
 | nil => exact .inl rfl
 | snoc _ ha ih =>
  have h1 : Ar M _ _ := ⟨_, ha, rfl, rfl⟩
  rcases ih with e | ih
  ·exact .inr (e ▸ .one h1)
  ·exact .inr (ih.more h1)
theorem wayR_trans {R : Int → Int → Prop} {a b c : Int} (h : WayR R a b) (k : WayR R b c) : WayR R a c := by
 rcases h with rfl | h
 ·exact k
 ·rcases k with rfl | k
  ·exact .inr h
  ·exact .inr (h.trans k)
/-- A way to a final state leads over states that are needed. -/
theorem walk_trim {M : Mach} {x y : List UInt8} {t : Int} (h : Walk M.arcs M.start x y t) (hb : Bwd M t) : Walk (trimM M).arcs (trimM M).start x y (numI M t) := by
 induction h with
 | nil => exact .nil
 | @snoc x y a hw ha ih =>
  have h1 : Ar M a.frm a.to := ⟨a, ha, rfl, rfl⟩
  have hb1 : Bwd M a.frm := by
   obtain ⟨s, hs, hw2⟩ := hb
   exact ⟨s, hs, wayR_trans (.inr (.one h1)) hw2⟩
  have hf1 := walk_way hw
  have hf2 : Fwd M a.to := wayR_trans hf1 (.inr (.one h1))
  refine Walk.more (u := numI M a.to) (ih hb1) (c := a.inp) (d := a.out) ?_ rfl rfl
  exact List.mem_map.2 ⟨a, List.mem_filter.2 ⟨ha, by simp only [decide_eq_true_eq]; exact ⟨.inr ⟨hf1, hb1⟩, .inr ⟨hf2, hb⟩⟩⟩, rfl⟩
/-- A way of the trimmed machine is one of the machine. -/
theorem walk_untrim {M : Mach} (hv : ValidM M) {x y : List UInt8} {t : Int} (h : Walk (trimM M).arcs (trimM M).start x y t) : ∃ u, numI M u = t ∧ Kept M u ∧ StateOk M.states u ∧ Walk M.arcs M.start x y u := by
 induction h with
 | nil => exact ⟨M.start, rfl, .inl rfl, hv.start, .nil⟩
 | @snoc x y a _ ha ih =>
  obtain ⟨u, hu, hk, hs, hw⟩ := ih
  obtain ⟨b, hb, rfl⟩ := List.mem_map.1 ha
  obtain ⟨hb1, hb2⟩ := List.mem_filter.1 hb
  obtain ⟨k1, k2⟩ : Kept M b.frm ∧ Kept M b.to := by simpa using hb2
  obtain ⟨q1, q2, _⟩ := hv.arcs b hb1
  have e : u = b.frm := numI_inj hs.1 q1.1 hk k1 hu
  subst e
  exact ⟨b.to, rfl, k2, q2, hw.snoc hb1⟩
theorem trim_result {M : Mach} (hv : ValidM M) {x : List UInt8} {t : ByteArray} : Result (trimM M) x t ↔ Result M x t := by
 rw [result_iff (fun a ha => ((trim_valid hv).arcs a ha).2.2.1), result_iff (fun a ha => (hv.arcs a ha).2.2.1)]
 constructor
 ·rintro ⟨s, hs, hw⟩
  obtain ⟨f, hf, rfl⟩ := List.mem_map.1 hs
  obtain ⟨hf1, hf2⟩ := List.mem_filter.1 hf
  obtain ⟨u, hu, hk, ho, hw2⟩ := walk_untrim hv hw
  have e : u = f := numI_inj ho.1 (hv.final f hf1).1 hk (by simpa using hf2) hu
  subst e
  exact ⟨u, hf1, hw2⟩
 ·rintro ⟨s, hs, hw⟩
  have hb : Bwd M s := ⟨s, hs, .inl rfl⟩
  exact ⟨numI M s, List.mem_map.2 ⟨s, List.mem_filter.2 ⟨hs, by simp only [decide_eq_true_eq]; exact .inr ⟨walk_way hw, hb⟩⟩, rfl⟩, walk_trim hw hb⟩
theorem trim_circle {M : Mach} (hv : ValidM M) (h : Circle (trimM M)) : Circle M := by
 obtain ⟨s, hs⟩ := h
 have key : ∀ a b, Way (Ed (trimM M)) a b → ∃ u v, numI M u = a ∧ numI M v = b ∧ Kept M u ∧ Kept M v ∧ StateOk M.states u ∧ StateOk M.states v ∧ Way (Ed M) u v := fun a b h => by
  have one : ∀ a b, Ed (trimM M) a b → ∃ u v, numI M u = a ∧ numI M v = b ∧ Kept M u ∧ Kept M v ∧ StateOk M.states u ∧ StateOk M.states v ∧ Ed M u v := fun a b h => by
   obtain ⟨c, hc, rfl⟩ := h
   obtain ⟨h1, h2, h3⟩ := mem_runA.1 hc
   obtain ⟨d, hd, rfl⟩ := List.mem_map.1 h1
   obtain ⟨hd1, hd2⟩ := List.mem_filter.1 hd
   obtain ⟨k1, k2⟩ : Kept M d.frm ∧ Kept M d.to := by simpa using hd2
   obtain ⟨q1, q2, _⟩ := hv.arcs d hd1
   exact ⟨d.frm, d.to, h2, rfl, k1, k2, q1, q2, d, mem_runA.2 ⟨hd1, rfl, h3⟩, rfl⟩
  induction h with
  | one h1 =>
   obtain ⟨u, v, e1, e2, k1, k2, o1, o2, h⟩ := one _ _ h1
   exact ⟨u, v, e1, e2, k1, k2, o1, o2, .one h⟩
  | more _ h1 ih =>
   obtain ⟨u, v, e1, e2, k1, k2, o1, o2, h⟩ := ih
   obtain ⟨u', v', e1', e2', k1', k2', o1', o2', h'⟩ := one _ _ h1
   have e : v = u' := numI_inj o2.1 o1'.1 k2 k1' (e2.trans e1'.symm)
   subst e
   exact ⟨u, v', e1, e2', k1, k2', o1, o2', h.more h'⟩
 obtain ⟨u, v, e1, e2, k1, k2, o1, o2, hw⟩ := key _ _ hs
 have e : u = v := numI_inj o1.1 o2.1 k1 k2 (e1.trans e2.symm)
 subst e
 exact ⟨u, hw⟩
end Go.Proofs.YtabocamjaecaaaaGreatDoor
