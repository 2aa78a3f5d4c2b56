/- Plain words: ways of arcs, and what machines do, as ways; the inverse machine; how long the results of compiled machines are. No program in sight. -/
import Derived.Test.YtabocamjaecaaaaGreatDoorGP
namespace Go.Proofs.YtabocamjaecaaaaGreatDoor
open Go Classical

/-- What a symbol adds to a text. -/
def symb (c : Int) : List UInt8 := if c = 0 then [] else [c.toNat.toUInt8]
theorem symb_zero : symb 0 = [] := rfl
theorem bl_afterB (t : ByteArray) (c : Int) : bl (afterB t c) = bl t ++ symb c := by
 unfold afterB symb
 split
 ·simp
 ·simp [bl]
/-- A way of arcs: from where, what is read, what is written, to where. -/
inductive Walk (l : List Arc) (s : Int) : List UInt8 → List UInt8 → Int → Prop
 | nil : Walk l s [] [] s
 | snoc {x y : List UInt8} {a : Arc} : Walk l s x y a.frm → a ∈ l → Walk l s (x ++ symb a.inp) (y ++ symb a.out) a.to
theorem Walk.more {l : List Arc} {s t u : Int} {x y x' y' : List UInt8} {c d : Int} (h : Walk l s x y t) (ha : (⟨t, c, d, u⟩ : Arc) ∈ l) (hx : x' = x ++ symb c) (hy : y' = y ++ symb d) : Walk l s x' y' u := by
 subst hx hy
 exact Walk.snoc (a := ⟨t, c, d, u⟩) h ha
theorem Walk.append {l : List Arc} {s t u : Int} {x y x' y' : List UInt8} (h : Walk l s x y t) (k : Walk l t x' y' u) : Walk l s (x ++ x') (y ++ y') u := by
 induction k with
 | nil => simpa using h
 | snoc _ ha ih => rw [← List.append_assoc, ← List.append_assoc]; exact ih.snoc ha
theorem Walk.imp {l m : List Arc} (h : ∀ a ∈ l, a ∈ m) {s t : Int} {x y : List UInt8} (k : Walk l s x y t) : Walk m s x y t := by
 induction k with
 | nil => exact .nil
 | snoc _ ha ih => exact ih.snoc (h _ ha)

theorem Goes.walk {M : Mach} {c : Int} {p q : Plc} {s : Int} {x : List UInt8} (h : Goes M c p q) (k : Walk M.arcs s x (bl p.tx) p.st) : Walk M.arcs s (x ++ symb c) (bl q.tx) q.st := by
 obtain ⟨a, ha, e1, e2, rfl⟩ := h
 rw [← e1] at k
 rw [← e2]
 show Walk _ _ _ (bl (afterB p.tx a.out)) a.to
 rw [bl_afterB]
 exact k.snoc ha
theorem Cl.walk {M : Mach} {S : Plc → Prop} {s : Int} {x : List UInt8} (hS : ∀ q, S q → Walk M.arcs s x (bl q.tx) q.st) {p : Plc} (hp : Cl M S p) : Walk M.arcs s x (bl p.tx) p.st := by
 induction hp with
 | base h0 => exact hS _ h0
 | more _ hg ih => simpa [symb_zero] using hg.walk ih
theorem byte_ne {b : UInt8} (hb : b ≠ 0) : ((b.toNat : Nat) : Int) ≠ 0 := by
 intro e
 apply hb; apply UInt8.toNat_inj.1; simp; omega
theorem symb_byte {b : UInt8} (hb : b ≠ 0) : symb (b.toNat : Int) = [b] := by
 unfold symb
 rw [if_neg (byte_ne hb)]
 simp
theorem snocRec {p : List UInt8 → Prop} (h0 : p []) (h : ∀ l b, p l → p (l ++ [b])) (l : List UInt8) : p l := by
 have : ∀ n l, l.length = n → p l := fun n => by
  induction n with
  | zero => intro l hl; obtain rfl := List.length_eq_zero_iff.1 hl; exact h0
  | succ n ih =>
   intro l hl
   have hne : l ≠ [] := by intro e; subst e; simp at hl
   rw [← List.dropLast_concat_getLast hne]
   exact h _ _ (ih _ (by rw [List.length_dropLast]; omega))
 exact this _ l rfl
theorem Reach_none {M : Mach} {l : List UInt8} (h : (0 : UInt8) ∈ l) (p : Plc) : ¬ Reach M l p := by
 induction l using snocRec generalizing p with
 | h0 => simp at h
 | h l b ih =>
  by_cases hb : b = 0
  ·subst hb
   unfold Reach
   rw [List.foldl_append]
   simp
  ·rw [Reach_snoc _ _ _ hb]
   have hl : (0 : UInt8) ∈ l := by
    rcases List.mem_append.1 h with h | h
    ·exact h
    ·simp at h; exact absurd h.symm hb
   intro hp
   have : ∀ q, ¬ Setout M (Reach M l) (b.toNat : Int) q := fun q hq => by
    unfold Setout at hq
    rw [if_neg (byte_ne hb)] at hq
    obtain ⟨q', h1, _⟩ := hq
    exact ih hl q' h1
   unfold StepM at hp
   induction hp with
   | base h0 => exact this _ h0
   | more _ _ ih => exact ih
theorem reach_walk {M : Mach} (l : List UInt8) : ∀ p, Reach M l p → Walk M.arcs M.start l (bl p.tx) p.st := by
 induction l using snocRec with
 | h0 =>
  intro p hp
  rw [Reach_nil] at hp
  exact hp.walk (fun q e => by subst e; exact .nil)
 | h l b ih =>
  intro p hp
  by_cases hb : b = 0
  ·subst hb
   exact absurd hp (Reach_none (by simp) p)
  ·rw [Reach_snoc _ _ _ hb] at hp
   refine Cl.walk (fun q hq => ?_) hp
   unfold Setout at hq
   rw [if_neg (byte_ne hb)] at hq
   obtain ⟨q', h1, h2⟩ := hq
   have := h2.walk (ih q' h1)
   rwa [symb_byte hb] at this
theorem reach_on {M : Mach} {l : List UInt8} {p q : Plc} (hp : Reach M l p) (hg : Goes M 0 p q) : Reach M l q := by
 rcases List.eq_nil_or_concat l with rfl | ⟨l', b, rfl⟩
 ·rw [Reach_nil] at hp ⊢; exact .more hp hg
 ·by_cases hb : b = 0
  ·subst hb; exact absurd hp (Reach_none (by simp) p)
  ·rw [List.concat_eq_append, Reach_snoc _ _ _ hb] at hp ⊢
   exact .more hp hg
/-- A symbol that is a byte. -/
theorem sym_byte {c : Int} (h : SymOk c) (hc : c ≠ 0) : c.toNat.toUInt8 ≠ 0 ∧ ((c.toNat.toUInt8.toNat : Nat) : Int) = c := by
 rcases h with h | h
 ·exact absurd h hc
 ·have e : c.toNat.toUInt8.toNat = c.toNat := by
   rw [Nat.toUInt8_eq, UInt8.toNat_ofNat']; omega
  exact ⟨fun e0 => by rw [e0] at e; simp at e; omega, by rw [e]; omega⟩
theorem walk_reach {M : Mach} (hv : ∀ a ∈ M.arcs, SymOk a.inp) {x y : List UInt8} {s : Int} (h : Walk M.arcs M.start x y s) : Reach M x ⟨s, ⟨y.toArray⟩⟩ := by
 induction h with
 | nil => rw [Reach_nil]; exact .base rfl
 | @snoc x y a _ ha ih =>
  have hg : Goes M a.inp ⟨a.frm, ⟨y.toArray⟩⟩ ⟨a.to, ⟨(y ++ symb a.out).toArray⟩⟩ := by
   refine ⟨a, ha, rfl, rfl, ?_⟩
   congr 1
   apply bl_inj
   rw [bl_afterB]
   simp [bl]
  by_cases h0 : a.inp = 0
  ·rw [h0] at hg ⊢
   rw [symb_zero, List.append_nil]
   exact reach_on ih hg
  ·obtain ⟨h1, h2⟩ := sym_byte (hv a ha) h0
   have hs : symb a.inp = [a.inp.toNat.toUInt8] := by unfold symb; rw [if_neg h0]
   rw [hs, Reach_snoc _ _ _ h1, h2]
   refine .base ?_
   unfold Setout
   rw [if_neg h0]
   exact ⟨_, ih, hg⟩
theorem walk_zero {l : List Arc} (hv : ∀ a ∈ l, SymOk a.inp) {x y : List UInt8} {s t : Int} (h : Walk l s x y t) : (0 : UInt8) ∉ x := by
 induction h with
 | nil => simp
 | @snoc x y a _ ha ih =>
  intro hm
  rcases List.mem_append.1 hm with hm | hm
  ·exact ih hm
  ·unfold symb at hm
   split at hm
   ·simp at hm
   ·rename_i h0
    have := (sym_byte (hv a ha) h0).1
    simp at hm
    exact this hm.symm
theorem result_iff {M : Mach} (hv : ∀ a ∈ M.arcs, SymOk a.inp) {x : List UInt8} {t : ByteArray} : Result M x t ↔ ∃ s ∈ M.final, Walk M.arcs M.start x (bl t) s := by
 constructor
 ·rintro ⟨_, s, hs, hr⟩
  exact ⟨s, hs, reach_walk x _ hr⟩
 ·rintro ⟨s, hs, hw⟩
  refine ⟨walk_zero hv hw, s, hs, ?_⟩
  have := walk_reach hv hw
  rwa [show (⟨(bl t).toArray⟩ : ByteArray) = t from bl_inj (by simp [bl])] at this

/-- The inverse machine. -/
def Arc.inv (a : Arc) : Arc := ⟨a.frm, a.out, a.inp, a.to⟩
structure InvOf (M N : Mach) : Prop where
 states : N.states = M.states
 start : N.start = M.start
 final : N.final = M.final
 inc : Increasing N.arcs
 mem : ∀ a, a ∈ N.arcs ↔ a.inv ∈ M.arcs
 len : N.arcs.length = M.arcs.length
theorem InvOf.valid {M N : Mach} (h : InvOf M N) (hM : ValidM M) : ValidM N := by
 refine ⟨by rw [h.states]; exact hM.one, by rw [h.states]; exact hM.most, by rw [h.states, h.start]; exact hM.start, by rw [h.len]; exact hM.arcsLen, by rw [h.states, h.final]; exact hM.final, by rw [h.final]; exact hM.inc, fun a ha => ?_, h.inc⟩
 obtain ⟨h1, h2, h3, h4⟩ := hM.arcs _ ((h.mem a).1 ha)
 rw [h.states]
 exact ⟨h1, h2, h4, h3⟩
theorem walk_inv {l m : List Arc} (h : ∀ a ∈ l, a.inv ∈ m) {s t : Int} {x y : List UInt8} (k : Walk l s x y t) : Walk m s y x t := by
 induction k with
 | nil => exact .nil
 | @snoc x y a _ ha ih => exact Walk.more (u := a.to) ih (h a ha) rfl rfl
theorem InvOf.result {M N : Mach} (h : InvOf M N) (hM : ValidM M) {x t : ByteArray} : Result N (bl t) x ↔ Result M (bl x) t := by
 rw [result_iff (fun a ha => ((h.valid hM).arcs a ha).2.2.1), result_iff (fun a ha => (hM.arcs a ha).2.2.1), h.final, h.start]
 constructor
 ·rintro ⟨s, hs, hw⟩; exact ⟨s, hs, walk_inv (fun a ha => (h.mem a).1 ha) hw⟩
 ·rintro ⟨s, hs, hw⟩; exact ⟨s, hs, walk_inv (fun a ha => (h.mem a.inv).2 ha) hw⟩

/-- Ranks of states: an arc leads from rank r to rank r + 1 or 0, and reads if r is 0. -/
def Ranked (rk : Int → Nat) (a : Arc) : Prop := (rk a.frm = 0 → a.inp ≠ 0) ∧ rk a.frm ≤ 8 ∧ (rk a.to = 0 ∨ rk a.to = rk a.frm + 1)
theorem symb_len (c : Int) : (symb c).length ≤ 1 := by unfold symb; split <;> simp
theorem ranked_walk {l : List Arc} {rk : Int → Nat} (h : ∀ a ∈ l, Ranked rk a) {s t : Int} (hs : rk s = 0) {x y : List UInt8} (k : Walk l s x y t) : if rk t = 0 then y.length ≤ 9 * x.length else y.length + 9 ≤ 9 * x.length + rk t := by
 induction k with
 | nil => rw [if_pos hs]; simp
 | @snoc x y a _ ha ih =>
  obtain ⟨h1, h2, h3⟩ := h a ha
  have ho := symb_len a.out
  rw [List.length_append, List.length_append]
  by_cases hf : rk a.frm = 0
  ·rw [if_pos hf] at ih
   have hi : (symb a.inp).length = 1 := by unfold symb; rw [if_neg (h1 hf)]; rfl
   split <;> omega
  ·rw [if_neg hf] at ih
   split <;> omega
end Go.Proofs.YtabocamjaecaaaaGreatDoor
