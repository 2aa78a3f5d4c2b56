/- Plain words: how long the results of compiled machines are. No program in sight. -/
import Derived.Test.YtabocamjaecaaaaGreatDoorGH
import Derived.Test.YtabocamjaecaaaaGreatDoorGN
namespace Go.Proofs.YtabocamjaecaaaaGreatDoor
open Go Classical

/-- The ranks of the states of ways. -/
def rkFrom : Nat → List RulL → Int → Nat
 | _, [], _ => 0
 | base, x :: r, s => if (base : Int) ≤ s ∧ s < (base : Int) + (x.n - 1 : Nat) then (s - base).toNat + 1 else rkFrom (base + x.n - 1) r s
theorem rk_low : ∀ (r : List RulL) (base : Nat) (s : Int), s < base → (∀ z ∈ r, 1 ≤ z.n) → rkFrom base r s = 0
 | [], _, _, _, _ => rfl
 | x :: r, base, s, h, hn => by
  have h1 := hn x (List.mem_cons_self ..)
  unfold rkFrom
  rw [if_neg (by omega)]
  exact rk_low r _ s (by omega) (fun z hz => hn z (List.mem_cons_of_mem _ hz))
/-- A rule that reads something, and has 9 bytes at most. -/
def RulL.fit (x : RulL) : Prop := 1 ≤ x.n ∧ x.n ≤ 9 ∧ byteL x.src 0 ≠ 0
def RankedIn (S base : Nat) (rk : Int → Nat) (a : Arc) : Prop := Ranked rk a ∧ (a.frm < S ∨ (base : Int) ≤ a.frm) ∧ (a.to < S ∨ (base : Int) ≤ a.to)
theorem ranked_rule {x : RulL} {r : List RulL} {S base lead : Nat} {st : List Nat} (hx : x.fit) (hr : ∀ z ∈ r, 1 ≤ z.n) (hS : S ≤ base) (hl : lead < S) (hst : ∀ s ∈ st, s < S) : ∀ a ∈ ruleArcs x base lead st, RankedIn S base (rkFrom base (x :: r)) a := by
 obtain ⟨h1, h9, h0⟩ := hx
 have hall : ∀ z ∈ x :: r, 1 ≤ z.n := fun z hz => by
  rcases List.mem_cons.1 hz with rfl | hz
  ·exact h1
  ·exact hr z hz
 have low : ∀ s : Int, s < S → rkFrom base (x :: r) s = 0 := fun s hs => rk_low _ _ _ (by omega) hall
 have inr : ∀ j : Nat, j < x.n - 1 → rkFrom base (x :: r) ((base : Int) + (j : Int)) = j + 1 := fun j hj => by
  unfold rkFrom
  rw [if_pos (by omega)]
  omega
 intro a ha
 unfold ruleArcs at ha
 simp only [List.mem_append, List.mem_map, List.mem_range] at ha
 rcases ha with ⟨s, hs, rfl⟩ | ⟨j, hj, rfl⟩
 ·have hsS := hst s hs
  refine ⟨⟨fun _ => h0, ?_, ?_⟩, .inl (by show (s : Int) < S; omega), ?_⟩
  ·show rkFrom base (x :: r) (s : Int) ≤ 8
   rw [low _ (by omega)]; omega
  ·show rkFrom base (x :: r) (arcTo x base lead 0) = 0 ∨ rkFrom base (x :: r) (arcTo x base lead 0) = rkFrom base (x :: r) (s : Int) + 1
   rw [low (s : Int) (by omega)]
   unfold arcTo
   split
   ·exact .inl (low _ (by omega))
   ·refine .inr ?_
    have := inr 0 (by omega)
    simpa using this
  ·show arcTo x base lead 0 < S ∨ _ ≤ arcTo x base lead 0
   unfold arcTo
   split
   ·exact .inl (by omega)
   ·exact .inr (by omega)
 ·refine ⟨⟨fun h => ?_, ?_, ?_⟩, .inr (by show (base : Int) ≤ (base : Int) + (j : Int); omega), ?_⟩
  ·have h' : rkFrom base (x :: r) ((base : Int) + (j : Int)) = 0 := h
   rw [inr j hj] at h'; omega
  ·show rkFrom base (x :: r) ((base : Int) + (j : Int)) ≤ 8
   rw [inr j hj]; omega
  ·show rkFrom base (x :: r) (arcTo x base lead (j + 1)) = 0 ∨ rkFrom base (x :: r) (arcTo x base lead (j + 1)) = rkFrom base (x :: r) ((base : Int) + (j : Int)) + 1
   rw [inr j hj]
   unfold arcTo
   split
   ·exact .inl (low _ (by omega))
   ·exact .inr (inr (j + 1) (by omega))
  ·show arcTo x base lead (j + 1) < S ∨ _ ≤ arcTo x base lead (j + 1)
   unfold arcTo
   split
   ·exact .inl (by omega)
   ·exact .inr (by omega)
theorem ranked_from {L : List (List UInt8)} {all : List RulL} {leads : List Nat} {S : Nat} (h2 : 2 ≤ S) (hst : ∀ z s, s ∈ startsIn L z all leads → s < S) : ∀ (r : List RulL) (t : List Nat) (base : Nat), S ≤ base → (∀ z ∈ r, z.fit) → (∀ s ∈ t, s < S) → ∀ a ∈ arcsFrom L all leads base r t, RankedIn S base (rkFrom base r) a
 | [], _, _, _, _, _ => fun a ha => by simp [arcsFrom] at ha
 | _ :: _, [], _, _, _, _ => fun a ha => by simp [arcsFrom] at ha
 | x :: r, l :: t, base, hb, hf, ht => by
  have hx := hf x (List.mem_cons_self ..)
  have hr : ∀ z ∈ r, z.fit := fun z hz => hf z (List.mem_cons_of_mem _ hz)
  intro a ha
  simp only [arcsFrom, List.mem_append] at ha
  rcases ha with ha | ha
  ·refine ranked_rule hx (fun z hz => (hr z hz).1) hb (ht l (List.mem_cons_self ..)) (fun s hs => ?_) a ha
   simp only [List.mem_cons] at hs
   rcases hs with rfl | rfl | hs
   ·omega
   ·omega
   ·exact hst x s hs
  ·have h1 := hx.1
   obtain ⟨⟨q1, q2, q3⟩, e1, e2⟩ := ranked_from h2 hst r t (base + x.n - 1) (by omega) hr (fun s hs => ht s (List.mem_cons_of_mem _ hs)) a ha
   have same : ∀ s : Int, (s < S ∨ ((base + x.n - 1 : Nat) : Int) ≤ s) → rkFrom base (x :: r) s = rkFrom (base + x.n - 1) r s := fun s hs => by
    conv => lhs; unfold rkFrom
    rw [if_neg (by omega)]
   refine ⟨⟨?_, ?_, ?_⟩, by omega, by omega⟩
   ·rw [same _ e1]; exact q1
   ·rw [same _ e1]; exact q2
   ·rw [same _ e1, same _ e2]; exact q3
theorem rul_fit {x : Rul} (h : x.ok) : x.l.fit := by
 refine ⟨(rul_n h).2, (rul_n h).1, ?_⟩
 obtain ⟨⟨h1, h2, _⟩, _⟩ := h
 have hl : (bl x.src).length = x.src.size := bl_length _
 show byteL (bl x.src) 0 ≠ 0
 have h3 := List.all_eq_true.1 h1 _ (List.getElem_mem (h := (show 0 < (bl x.src).length by omega)))
 unfold byteL
 rw [List.getElem?_eq_getElem (by omega)]
 show (((bl x.src)[0].toNat : Nat) : Int) ≠ 0
 simp [printC] at h3
 omega
/-- A result of a compiled machine has at most 9 bytes for each byte of the word. -/
theorem compiled_size {R : Ruls} {A : Alph} {M : Mach} (hM : CompileOf R A M) (hn : ∀ r ∈ R.list, r.ok) {x : List UInt8} {t : ByteArray} (h : Result M x t) : t.size ≤ 9 * x.length := by
 obtain ⟨_, s, hs, hr⟩ := h
 have hw := reach_walk x _ hr
 have hf : ∀ z ∈ R.list.map Rul.l, z.fit := fun z hz => by obtain ⟨r, hr, rfl⟩ := List.mem_map.1 hz; exact rul_fit (hn r hr)
 have h3 := statesFrom_ge (R.list.map Rul.l) 3
 have hl := leads_lt (R.list.map Rul.l) 3 (Nat.le_refl _)
 have hk := ranked_from (L := A.bls) (all := R.list.map Rul.l) (leads := leadsFrom 3 (R.list.map Rul.l)) (S := statesFrom 3 (R.list.map Rul.l)) (by omega) (fun z s hs => hl s (startsIn_mem hs)) (R.list.map Rul.l) (leadsFrom 3 (R.list.map Rul.l)) (statesFrom 3 (R.list.map Rul.l)) (Nat.le_refl _) hf hl
 have low : ∀ s : Int, s < 3 → rkFrom (statesFrom 3 (R.list.map Rul.l)) (R.list.map Rul.l) s = 0 := fun s hs => rk_low _ _ _ (by omega) (fun z hz => (hf z hz).1)
 have := ranked_walk (l := M.arcs) (fun a ha => (hk a ((hM.mem a).1 ha)).1) (low _ (by rw [hM.start]; omega)) hw
 rw [hM.final] at hs
 have hs3 : s < 3 := by simp at hs; omega
 rw [if_pos (low s hs3), bl_length] at this
 exact this

theorem endFrom_ge : ∀ (r : List RulL) (base : Nat), (∀ z ∈ r, 1 ≤ z.n) → base ≤ endFrom base r
 | [], _, _ => Nat.le_refl _
 | x :: r, base, h => by
  have h1 := h x (List.mem_cons_self ..)
  have := endFrom_ge r (base + x.n - 1) (fun z hz => h z (List.mem_cons_of_mem _ hz))
  simp only [endFrom]; omega
/-- The bytes of a rule are symbols. -/
def RulL.syms (x : RulL) : Prop := (∀ j, SymOk (byteL x.src j)) ∧ ∀ j, SymOk (byteL x.dst j)
def ArcIn (n : Nat) (a : Arc) : Prop := StateOk n a.frm ∧ StateOk n a.to ∧ SymOk a.inp ∧ SymOk a.out
theorem arcs_in_rule {x : RulL} {S base lead n : Nat} {st : List Nat} (h1 : 1 ≤ x.n) (hs : x.syms) (hS : S ≤ base) (hl : lead < S) (hst : ∀ s ∈ st, s < S) (hn : base + x.n - 1 ≤ n) : ∀ a ∈ ruleArcs x base lead st, ArcIn n a := by
 have hto : ∀ j, j < x.n → StateOk n (arcTo x base lead j) := fun j hj => by
  unfold arcTo StateOk
  split <;> omega
 intro a ha
 unfold ruleArcs at ha
 simp only [List.mem_append, List.mem_map, List.mem_range] at ha
 rcases ha with ⟨s, hs', rfl⟩ | ⟨j, hj, rfl⟩
 ·have := hst s hs'
  exact ⟨⟨by show (0 : Int) ≤ (s : Int); omega, by show (s : Int) < (n : Int); omega⟩, hto 0 (by omega), hs.1 0, hs.2 0⟩
 ·exact ⟨⟨by show (0 : Int) ≤ (base : Int) + (j : Int); omega, by show (base : Int) + (j : Int) < (n : Int); omega⟩, hto (j + 1) (by omega), hs.1 _, hs.2 _⟩
theorem arcs_in_from {L : List (List UInt8)} {all : List RulL} {leads : List Nat} {S n : Nat} (h2 : 2 ≤ S) (hst : ∀ z s, s ∈ startsIn L z all leads → s < S) : ∀ (r : List RulL) (t : List Nat) (base : Nat), S ≤ base → (∀ z ∈ r, 1 ≤ z.n) → (∀ z ∈ r, z.syms) → (∀ s ∈ t, s < S) → endFrom base r ≤ n → ∀ a ∈ arcsFrom L all leads base r t, ArcIn n a
 | [], _, _, _, _, _, _, _ => fun a ha => by simp [arcsFrom] at ha
 | _ :: _, [], _, _, _, _, _, _ => fun a ha => by simp [arcsFrom] at ha
 | x :: r, l :: t, base, hb, hf, hs, ht, hn => by
  have hr : ∀ z ∈ r, 1 ≤ z.n := fun z hz => hf z (List.mem_cons_of_mem _ hz)
  have h1 := hf x (List.mem_cons_self ..)
  have hge := endFrom_ge r (base + x.n - 1) hr
  simp only [endFrom] at hn
  intro a ha
  simp only [arcsFrom, List.mem_append] at ha
  rcases ha with ha | ha
  ·refine arcs_in_rule h1 (hs x (List.mem_cons_self ..)) hb (ht l (List.mem_cons_self ..)) (fun s hs => ?_) (by omega) a ha
   simp only [List.mem_cons] at hs
   rcases hs with rfl | rfl | hs
   ·omega
   ·omega
   ·exact hst x s hs
  ·exact arcs_in_from h2 hst r t (base + x.n - 1) (by omega) hr (fun z hz => hs z (List.mem_cons_of_mem _ hz)) (fun s hs => ht s (List.mem_cons_of_mem _ hs)) hn a ha
theorem print_sym {l : List UInt8} (h : printB l = true) (j : Nat) : SymOk (byteL l j) := by
 unfold byteL
 cases hj : l[j]? with
 | none => exact .inl rfl
 | some c =>
  have := List.all_eq_true.1 h c (List.mem_of_getElem? hj)
  refine .inr ?_
  simp [printC] at this
  show (33 : Int) ≤ (c.toNat : Int) ∧ (c.toNat : Int) ≤ 126
  omega
theorem rul_syms {x : Rul} (h : x.ok) : x.l.syms := ⟨print_sym h.1.1, print_sym h.2.1.1⟩
theorem states_le : ∀ (l : List RulL) (k : Nat), statesFrom k l ≤ k + l.length
 | [], k => Nat.le_refl _
 | x :: r, k => by
  simp only [statesFrom, List.length_cons]
  split
  ·have := states_le r k; omega
  ·have := states_le r (k + 1); omega
/-- A compiled machine is valid. -/
theorem compiled_valid {R : Ruls} {A : Alph} {M : Mach} (hM : CompileOf R A M) (hF : Formed11 R) : ValidM M := by
 obtain ⟨_, _, _, h80, hok, _⟩ := hF
 have hlen : (R.list.map Rul.l).length ≤ 80 := by rw [List.length_map]; exact h80
 have h1 : ∀ z ∈ R.list.map Rul.l, 1 ≤ z.n := fun z hz => by obtain ⟨r, hr, rfl⟩ := List.mem_map.1 hz; exact (rul_n (hok r hr)).2
 have h9 : ∀ z ∈ R.list.map Rul.l, z.n ≤ 9 := fun z hz => by obtain ⟨r, hr, rfl⟩ := List.mem_map.1 hz; exact (rul_n (hok r hr)).1
 have hs : ∀ z ∈ R.list.map Rul.l, z.syms := fun z hz => by obtain ⟨r, hr, rfl⟩ := List.mem_map.1 hz; exact rul_syms (hok r hr)
 have h3 := statesFrom_ge (R.list.map Rul.l) 3
 have h4 := states_le (R.list.map Rul.l) 3
 have hl := leads_lt (R.list.map Rul.l) 3 (Nat.le_refl _)
 have hge := endFrom_ge (R.list.map Rul.l) (statesFrom 3 (R.list.map Rul.l)) h1
 have hle := endFrom_le (statesFrom 3 (R.list.map Rul.l)) (R.list.map Rul.l) h9
 have hst : M.states = (endFrom (statesFrom 3 (R.list.map Rul.l)) (R.list.map Rul.l) : Nat) := hM.states
 have harc := arcs_in_from (L := A.bls) (all := R.list.map Rul.l) (leads := leadsFrom 3 (R.list.map Rul.l)) (S := statesFrom 3 (R.list.map Rul.l)) (by omega) (fun z s hs => hl s (startsIn_mem hs)) (R.list.map Rul.l) (leadsFrom 3 (R.list.map Rul.l)) (statesFrom 3 (R.list.map Rul.l)) (Nat.le_refl _) h1 hs hl (Nat.le_refl _)
 have hnd : M.arcs.Nodup := hM.inc.imp (fun {a b} hab e => by rw [e] at hab; exact Arc.lt_irrefl _ hab)
 have hal := arcsFrom_length A.bls (R.list.map Rul.l) (leadsFrom 3 (R.list.map Rul.l)) (statesFrom 3 (R.list.map Rul.l)) (R.list.map Rul.l) (leadsFrom 3 (R.list.map Rul.l)) h9
 have hcl := nodup_len hnd (fun y hy => (hM.mem y).1 hy)
 have h8 : (R.list.map Rul.l).length * ((R.list.map Rul.l).length + 10) ≤ 80 * 90 := Nat.mul_le_mul hlen (by omega)
 refine ⟨by rw [hst]; omega, by rw [hst]; omega, by rw [hst, hM.start]; exact ⟨by omega, by omega⟩, ?_, fun s hs' => ?_, ?_, fun a ha => ?_, hM.inc⟩
 ·unfold compileArcs at hcl
  omega
 ·rw [hM.final] at hs'
  rw [hst]
  simp at hs'
  unfold StateOk
  omega
 ·rw [hM.final]; simp
 ·rw [hst]
  exact harc a ((hM.mem a).1 ha)
/-- .. and has no circle of arcs that read nothing. -/
theorem compiled_plain {R : Ruls} {A : Alph} {M : Mach} (hM : CompileOf R A M) (hn : ∀ r ∈ R.list, r.ok) : ¬ Circle M := by
 have hf : ∀ z ∈ R.list.map Rul.l, z.fit := fun z hz => by obtain ⟨r, hr, rfl⟩ := List.mem_map.1 hz; exact rul_fit (hn r hr)
 have h3 := statesFrom_ge (R.list.map Rul.l) 3
 have hl := leads_lt (R.list.map Rul.l) 3 (Nat.le_refl _)
 have hk := ranked_from (L := A.bls) (all := R.list.map Rul.l) (leads := leadsFrom 3 (R.list.map Rul.l)) (S := statesFrom 3 (R.list.map Rul.l)) (by omega) (fun z s hs => hl s (startsIn_mem hs)) (R.list.map Rul.l) (leadsFrom 3 (R.list.map Rul.l)) (statesFrom 3 (R.list.map Rul.l)) (Nat.le_refl _) hf hl
 obtain ⟨rk, hrk⟩ : ∃ rk, rk = rkFrom (statesFrom 3 (R.list.map Rul.l)) (R.list.map Rul.l) := ⟨_, rfl⟩
 rw [← hrk] at hk
 have hed : ∀ a b, Ed M a b → rk a ≠ 0 ∧ (rk b = 0 ∨ rk b = rk a + 1) := fun a b h => by
  obtain ⟨x, hx, rfl⟩ := h
  obtain ⟨m1, m2, m3⟩ := mem_runA.1 hx
  obtain ⟨q1, _, q3⟩ := (hk x ((hM.mem x).1 m1)).1
  rw [m2] at q1 q3
  exact ⟨fun e => q1 e m3, q3⟩
 have hw : ∀ a b, Way (Ed M) a b → rk a ≠ 0 ∧ (rk b = 0 ∨ rk a < rk b) := fun a b h => by
  induction h with
  | one h1 =>
   obtain ⟨q1, q2⟩ := hed _ _ h1
   exact ⟨q1, by omega⟩
  | more _ h1 ih =>
   obtain ⟨q1, q2⟩ := hed _ _ h1
   exact ⟨ih.1, by omega⟩
 rintro ⟨s, hs⟩
 have := hw s s hs
 omega
end Go.Proofs.YtabocamjaecaaaaGreatDoor
