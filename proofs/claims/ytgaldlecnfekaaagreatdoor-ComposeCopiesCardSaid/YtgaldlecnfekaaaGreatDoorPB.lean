/- CC · CR · CH · CO · CY · CQ · CS -/
import Derived.Test.YtgaldlecnfekaaaGreatDoorGH
import Derived.Test.YtgaldlecnfekaaaGreatDoorGS
import Derived.Test.YtgaldlecnfekaaaGreatDoorCV
import Derived.Test.YtgaldlecnfekaaaGreatDoorCW
/- Plain words: the machine that writes what it reads, for the words of an alphabet. No program in sight. -/
namespace Go.Proofs.YtgaldlecnfekaaaGreatDoor
open Go Classical

/-- The arcs of a letter: from states 0 and 1, over states of its own from base on, to state 1. -/
def letTo (l : List UInt8) (base k : Nat) : Int := if k + 1 = l.length then 1 else (base : Int) + (k : Int)
def letArcs (l : List UInt8) (base : Nat) : List Arc :=
  [⟨0, byteL l 0, byteL l 0, letTo l base 0⟩, ⟨1, byteL l 0, byteL l 0, letTo l base 0⟩] ++ (List.range (l.length - 1)).map fun j : Nat => (⟨(base : Int) + (j : Int), byteL l (j + 1), byteL l (j + 1), letTo l base (j + 1)⟩ : Arc)
def copyArcs : Nat → List (List UInt8) → List Arc
  | _, [] => []
  | base, l :: r => letArcs l base ++ copyArcs (base + l.length - 1) r
def copyStates : Nat → List (List UInt8) → Nat
  | base, [] => base
  | base, l :: r => copyStates (base + l.length - 1) r

/-- Which letter a state belongs to, and how many of its bytes were read there. -/
def innFrom : Nat → List (List UInt8) → Int → Option (List UInt8 × Nat)
  | _, [], _ => none
  | base, l :: r, s => if (base : Int) ≤ s ∧ s < (base : Int) + (l.length - 1 : Nat) then some (l, (s - base).toNat + 1) else innFrom (base + l.length - 1) r s
theorem inn_low : ∀ (r : List (List UInt8)) (base : Nat) (s : Int), s < base → (∀ l ∈ r, 1 ≤ l.length) → innFrom base r s = none
  | [], _, _, _, _ => rfl
  | l :: r, base, s, h, hn => by
    have h1 := hn l (List.mem_cons_self ..)
    unfold innFrom
    rw [if_neg (by omega)]
    exact inn_low r _ s (by omega) (fun z hz => hn z (List.mem_cons_of_mem _ hz))
/-- An arc of a letter, as the states' letters tell. -/
def CopyArc (inn : Int → Option (List UInt8 × Nat)) (LS : List (List UInt8)) (a : Arc) : Prop :=
  ∃ l ∈ LS, ∃ k, k < l.length ∧ a.inp = byteL l k ∧ a.out = byteL l k ∧ ((k = 0 ∧ (a.frm = 0 ∨ a.frm = 1)) ∨ inn a.frm = some (l, k)) ∧ ((k + 1 = l.length ∧ a.to = 1) ∨ (k + 1 < l.length ∧ inn a.to = some (l, k + 1)))
def InOr (base : Nat) (s : Int) : Prop := s = 0 ∨ s = 1 ∨ (base : Int) ≤ s
theorem copy_let {l : List UInt8} {r : List (List UInt8)} {base : Nat} (h1 : 1 ≤ l.length) : ∀ a ∈ letArcs l base, CopyArc (innFrom base (l :: r)) (l :: r) a := by
  have inr : ∀ j : Nat, j < l.length - 1 → innFrom base (l :: r) ((base : Int) + (j : Int)) = some (l, j + 1) := fun j hj => by
    unfold innFrom
    rw [if_pos (by omega)]
    congr 2
    omega
  have hto : ∀ k, k < l.length → (k + 1 = l.length ∧ letTo l base k = 1) ∨ (k + 1 < l.length ∧ innFrom base (l :: r) (letTo l base k) = some (l, k + 1)) := fun k hk => by
    unfold letTo
    split
    · rename_i e; exact .inl ⟨e, rfl⟩
    · exact .inr ⟨by omega, inr k (by omega)⟩
  intro a ha
  unfold letArcs at ha
  simp only [List.mem_append, List.mem_cons, List.not_mem_nil, or_false, List.mem_map, List.mem_range] at ha
  rcases ha with (rfl | rfl) | ⟨j, hj, rfl⟩
  · exact ⟨l, List.mem_cons_self .., 0, by omega, rfl, rfl, .inl ⟨rfl, .inl rfl⟩, hto 0 (by omega)⟩
  · exact ⟨l, List.mem_cons_self .., 0, by omega, rfl, rfl, .inl ⟨rfl, .inr rfl⟩, hto 0 (by omega)⟩
  · exact ⟨l, List.mem_cons_self .., j + 1, by omega, rfl, rfl, .inr (inr j hj), hto (j + 1) (by omega)⟩
theorem let_ends {l : List UInt8} {base : Nat} : ∀ a ∈ letArcs l base, InOr base a.frm ∧ InOr base a.to := by
  have hto : ∀ k, InOr base (letTo l base k) := fun k => by unfold letTo InOr; split; exact .inr (.inl rfl); exact .inr (.inr (by omega))
  intro a ha
  unfold letArcs at ha
  simp only [List.mem_append, List.mem_cons, List.not_mem_nil, or_false, List.mem_map, List.mem_range] at ha
  rcases ha with (rfl | rfl) | ⟨j, hj, rfl⟩
  · exact ⟨.inl rfl, hto 0⟩
  · exact ⟨.inr (.inl rfl), hto 0⟩
  · exact ⟨.inr (.inr (by show (base : Int) ≤ (base : Int) + (j : Int); omega)), hto (j + 1)⟩
theorem copy_from : ∀ (r : List (List UInt8)) (base : Nat), 2 ≤ base → (∀ l ∈ r, 1 ≤ l.length) → ∀ a ∈ copyArcs base r, CopyArc (innFrom base r) r a ∧ InOr base a.frm ∧ InOr base a.to
  | [], _, _, _ => fun a ha => by simp [copyArcs] at ha
  | l :: r, base, hb, hn => by
    have h1 := hn l (List.mem_cons_self ..)
    intro a ha
    simp only [copyArcs, List.mem_append] at ha
    rcases ha with ha | ha
    · exact ⟨copy_let h1 a ha, let_ends a ha⟩
    · obtain ⟨⟨m, hm, k, q1, q2, q3, q4, q5⟩, e1, e2⟩ := copy_from r (base + l.length - 1) (by omega) (fun z hz => hn z (List.mem_cons_of_mem _ hz)) a ha
      have same : ∀ s : Int, InOr (base + l.length - 1) s → innFrom base (l :: r) s = innFrom (base + l.length - 1) r s := fun s hs => by
        conv => lhs; unfold innFrom
        rw [if_neg (by unfold InOr at hs; omega)]
      have up : ∀ s : Int, InOr (base + l.length - 1) s → InOr base s := fun s hs => by unfold InOr at hs ⊢; omega
      refine ⟨⟨m, List.mem_cons_of_mem _ hm, k, q1, q2, q3, ?_, ?_⟩, up _ e1, up _ e2⟩
      · rw [same _ e1]; exact q4
      · rw [same _ e2]; exact q5
/-- A letter's way. -/
theorem copy_has : ∀ (r : List (List UInt8)) (base : Nat), ∀ l ∈ r, 1 ≤ l.length → ∃ st : Nat → Int, st l.length = 1 ∧ (∀ f : Int, f = 0 ∨ f = 1 → (⟨f, byteL l 0, byteL l 0, st 1⟩ : Arc) ∈ copyArcs base r) ∧ ∀ k, 0 < k → k < l.length → (⟨st k, byteL l k, byteL l k, st (k + 1)⟩ : Arc) ∈ copyArcs base r
  | [], _, l, hl, _ => by simp at hl
  | m :: r, base, l, hl, h1 => by
    rcases List.mem_cons.1 hl with rfl | hl
    · refine ⟨fun k => letTo l base (k - 1), by simp only [letTo]; rw [if_pos (by omega)], fun f hf => ?_, fun k h0 hk => ?_⟩
      · refine List.mem_append.2 (.inl (List.mem_append.2 (.inl ?_)))
        rcases hf with rfl | rfl
        · exact List.mem_cons_self ..
        · exact List.mem_cons_of_mem _ (List.mem_cons_self ..)
      · refine List.mem_append.2 (.inl (List.mem_append.2 (.inr (List.mem_map.2 ⟨k - 1, List.mem_range.2 (by omega), ?_⟩))))
        have e : k - 1 + 1 = k := by omega
        simp only [e, Nat.add_sub_cancel]
        congr 1
        unfold letTo
        rw [if_neg (by omega)]
    · obtain ⟨st, q1, q2, q3⟩ := copy_has r (base + m.length - 1) l hl h1
      exact ⟨st, q1, fun f hf => List.mem_append.2 (.inr (q2 f hf)), fun k h0 hk => List.mem_append.2 (.inr (q3 k h0 hk))⟩

/-- Letters, one after the other. -/
inductive Cat (LS : List (List UInt8)) : List UInt8 → Prop
  | one {l : List UInt8} : l ∈ LS → Cat LS l
  | more {x l : List UInt8} : Cat LS x → l ∈ LS → Cat LS (x ++ l)
theorem symb_at {l : List UInt8} {k : Nat} (hk : k < l.length) (h0 : ∀ c ∈ l, c ≠ 0) : symb (byteL l k) = [l[k]] := by
  unfold byteL
  rw [List.getElem?_eq_getElem hk]
  exact symb_byte (h0 _ (List.getElem_mem hk))
/-- Where a way of the copy leads. -/
theorem copy_walk {LS : List (List UInt8)} (hn : ∀ l ∈ LS, 1 ≤ l.length) (h0 : ∀ l ∈ LS, ∀ c ∈ l, c ≠ 0) {arcs : List Arc} (hm : ∀ a ∈ arcs, a ∈ copyArcs 2 LS) {x y : List UInt8} {s : Int} (k : Walk arcs 0 x y s) :
    y = x ∧ ((s = 0 ∧ x = []) ∨ (s = 1 ∧ Cat LS x) ∨ ∃ l ∈ LS, ∃ j w, j < l.length ∧ innFrom 2 LS s = some (l, j) ∧ (w = [] ∨ Cat LS w) ∧ x = w ++ l.take j) := by
  have low0 : innFrom 2 LS 0 = none := inn_low LS 2 0 (by omega) hn
  have low1 : innFrom 2 LS 1 = none := inn_low LS 2 1 (by omega) hn
  induction k with
  | nil => exact ⟨rfl, .inl ⟨rfl, rfl⟩⟩
  | @snoc x y a _ ha ih =>
    obtain ⟨⟨l, hl, k, q1, q2, q3, q4, q5⟩, _, _⟩ := copy_from LS 2 (Nat.le_refl _) hn a (hm a ha)
    obtain ⟨rfl, ih⟩ := ih
    have e1 := symb_at q1 (h0 l hl)
    rw [q2, q3, e1]
    refine ⟨rfl, ?_⟩
    have hx : ∃ w, (w = [] ∨ Cat LS w) ∧ y = w ++ l.take k := by
      rcases q4 with ⟨rfl, hf⟩ | hf
      · rcases ih with ⟨_, rfl⟩ | ⟨_, hc⟩ | ⟨m, _, j, w, _, hi, _⟩
        · exact ⟨[], .inl rfl, by simp⟩
        · exact ⟨y, .inr hc, by simp⟩
        · rcases hf with e | e
          · rw [e, low0] at hi; cases hi
          · rw [e, low1] at hi; cases hi
      · rcases ih with ⟨e, _⟩ | ⟨e, _⟩ | ⟨m, _, j, w, _, hi, hw, rfl⟩
        · rw [e, low0] at hf; cases hf
        · rw [e, low1] at hf; cases hf
        · rw [hf] at hi
          cases hi
          exact ⟨w, hw, rfl⟩
    obtain ⟨w, hw, rfl⟩ := hx
    have e2 : w ++ l.take k ++ [l[k]] = w ++ l.take (k + 1) := by
      rw [List.append_assoc, List.take_add_one, List.getElem?_eq_getElem q1]; rfl
    rw [e2]
    rcases q5 with ⟨q5, q6⟩ | ⟨q5, q6⟩
    · refine .inr (.inl ⟨q6, ?_⟩)
      rw [q5, List.take_length]
      rcases hw with rfl | hw
      · rw [List.nil_append]; exact .one hl
      · exact hw.more hl
    · exact .inr (.inr ⟨l, hl, k + 1, w, q5, q6, hw, rfl⟩)
theorem letter_walk {LS : List (List UInt8)} {l : List UInt8} (hl : l ∈ LS) (h1 : 1 ≤ l.length) (h0 : ∀ c ∈ l, c ≠ 0) {arcs : List Arc} (hm : ∀ a ∈ copyArcs 2 LS, a ∈ arcs) {x : List UInt8} {f : Int} (hf : f = 0 ∨ f = 1) (k : Walk arcs 0 x x f) : Walk arcs 0 (x ++ l) (x ++ l) 1 := by
  obtain ⟨st, q1, q2, q3⟩ := copy_has LS 2 l hl h1
  have key : ∀ j, 0 < j → j ≤ l.length → Walk arcs 0 (x ++ l.take j) (x ++ l.take j) (st j) := fun j => by
    induction j with
    | zero => intro h; omega
    | succ j ih =>
      intro _ hj
      have e : ∀ z : List UInt8, z ++ l.take (j + 1) = z ++ l.take j ++ symb (byteL l j) := fun z => by
        rw [symb_at (by omega) h0, List.take_add_one, List.getElem?_eq_getElem (by omega), List.append_assoc]; rfl
      by_cases hj0 : j = 0
      · subst hj0
        refine Walk.more (u := st 1) k (hm _ (q2 f hf)) ?_ ?_ <;> (rw [e]; simp)
      · exact Walk.more (u := st (j + 1)) (ih (by omega) (by omega)) (hm _ (q3 j (by omega) (by omega))) (e x) (e x)
  have := key l.length (by omega) (Nat.le_refl _)
  rwa [List.take_length, q1] at this
theorem cat_walk {LS : List (List UInt8)} (hn : ∀ l ∈ LS, 1 ≤ l.length) (h0 : ∀ l ∈ LS, ∀ c ∈ l, c ≠ 0) {arcs : List Arc} (hm : ∀ a ∈ copyArcs 2 LS, a ∈ arcs) {x : List UInt8} (h : Cat LS x) : Walk arcs 0 x x 1 := by
  induction h with
  | one hl => simpa using letter_walk hl (hn _ hl) (h0 _ hl) hm (.inl rfl) (x := []) .nil
  | more _ hl ih => exact letter_walk hl (hn _ hl) (h0 _ hl) hm (.inr rfl) ih

/-- What Copy makes of the letters of a valid alphabet. -/
structure CopyM (LS : List (List UInt8)) (C : Mach) : Prop where
  states : C.states = (copyStates 2 LS : Nat)
  start : C.start = 0
  final : C.final = [1]
  arcsInc : Increasing C.arcs
  mem : ∀ a, a ∈ C.arcs ↔ a ∈ copyArcs 2 LS
theorem CopyM.result {LS : List (List UInt8)} {C : Mach} (h : CopyM LS C) (hn : ∀ l ∈ LS, 1 ≤ l.length) (h0 : ∀ l ∈ LS, ∀ c ∈ l, c ≠ 0) (hv : ∀ a ∈ C.arcs, SymOk a.inp) {x : List UInt8} {t : ByteArray} : Result C x t ↔ bl t = x ∧ Cat LS x := by
  rw [result_iff hv, h.start]
  constructor
  · rintro ⟨s, hs, hw⟩
    rw [h.final] at hs
    obtain rfl := List.mem_singleton.1 hs
    obtain ⟨e, h1⟩ := copy_walk hn h0 (fun a ha => (h.mem a).1 ha) hw
    refine ⟨e, ?_⟩
    rcases h1 with ⟨h1, _⟩ | ⟨_, h1⟩ | ⟨l, _, j, w, _, hi, _⟩
    · cases h1
    · exact h1
    · rw [inn_low LS 2 1 (by omega) hn] at hi; cases hi
  · rintro ⟨rfl, hc⟩
    exact ⟨1, by rw [h.final]; simp, cat_walk hn h0 (fun a ha => (h.mem a).2 ha) hc⟩
end Go.Proofs.YtgaldlecnfekaaaGreatDoor

/- Plain words: reading a text by letters, and texts that are letters one after the other. No program in sight. -/
namespace Go.Proofs.YtgaldlecnfekaaaGreatDoor
open Go Classical

theorem cat_iff {L : List (List UInt8)} {x : List UInt8} : Cat L x ↔ ∃ ls : List (List UInt8), ls ≠ [] ∧ (∀ l ∈ ls, l ∈ L) ∧ x = ls.flatten := by
  constructor
  · intro h
    induction h with
    | one hl => exact ⟨[_], by simp, fun m hm => by obtain rfl := List.mem_singleton.1 hm; exact hl, by simp⟩
    | more _ hl ih =>
      obtain ⟨ls, h1, h2, rfl⟩ := ih
      refine ⟨ls ++ [_], by simp, fun m hm => ?_, by rw [List.flatten_append]; simp; rfl⟩
      rcases List.mem_append.1 hm with hm | hm
      · exact h2 m hm
      · obtain rfl := List.mem_singleton.1 hm; exact hl
  · rintro ⟨ls, h1, h2, rfl⟩
    have key : ∀ (n : Nat) (ls : List (List UInt8)), ls.length = n + 1 → (∀ l ∈ ls, l ∈ L) → Cat L ls.flatten := fun n => by
      induction n with
      | zero =>
        intro ls hl ha
        obtain ⟨l, rfl⟩ := List.length_eq_one_iff.1 hl
        simpa using Cat.one (ha l (by simp))
      | succ n ih =>
        intro ls hl ha
        have hne : ls ≠ [] := by intro e; subst e; simp at hl
        rw [← List.dropLast_concat_getLast hne, List.flatten_append]
        have := ih ls.dropLast (by rw [List.length_dropLast]; omega) (fun l hl => ha l (List.dropLast_subset _ hl))
        simpa using this.more (ha _ (List.getLast_mem hne))
    obtain ⟨m, hm⟩ : ∃ m, ls.length = m + 1 := ⟨ls.length - 1, by have := List.length_pos_iff.2 h1; omega⟩
    exact key m ls hm h2
/-- Letters that are told apart: no rest of a letter behind another one begins letters. -/
structure Told (L : List (List UInt8)) : Prop where
  nodup : L.Nodup
  len : ∀ l ∈ L, 1 ≤ l.length ∧ l.length ≤ 3
  apart : ∀ l ∈ L, ∀ m ∈ L, l ≠ m → m <+: l → ¬ Follows L (l.drop m.length)
theorem follows_pre {L : List (List UInt8)} : ∀ (ls : List (List UInt8)) (r : List UInt8), (∀ l ∈ ls, l ∈ L) → r ≠ [] → r <+: ls.flatten → Follows L r
  | [], r, _, hr, hp => absurd (List.prefix_nil.1 (by simpa using hp)) hr
  | l :: ls, r, h, hr, hp => by
    rw [List.flatten_cons] at hp
    rcases List.prefix_or_prefix_of_prefix hp (List.prefix_append l ls.flatten) with h1 | h1
    · exact (follows_iff L r).2 ⟨l, h l (List.mem_cons_self ..), .inl h1⟩
    · obtain ⟨r', rfl⟩ := h1
      by_cases e : r' = []
      · subst e
        exact (follows_iff L _).2 ⟨l, h l (List.mem_cons_self ..), .inl (by simp)⟩
      · have hp' : r' <+: ls.flatten := (List.prefix_append_right_inj l).1 hp
        exact (follows_iff L _).2 ⟨l, h l (List.mem_cons_self ..), .inr ⟨r', rfl, follows_pre ls r' (fun m hm => h m (List.mem_cons_of_mem _ hm)) e hp'⟩⟩
theorem at_cat {L : List (List UInt8)} (hT : Told L) {l : List UInt8} (hl : l ∈ L) {ls : List (List UInt8)} (ha : ∀ m ∈ ls, m ∈ L) : ∃ k, atF L (l ++ ls.flatten) = some k ∧ L[k]? = some l := by
  obtain ⟨k, hk⟩ := List.mem_iff_getElem?.1 hl
  refine ⟨k, ?_, hk⟩
  refine atN_best L hT.nodup _ k l hk (List.prefix_append _ _) (fun m hm hp => ?_) (hT.len l hl).1 3 (hT.len l hl).2
  rcases Nat.lt_or_ge l.length m.length with h | h
  · exfalso
    have h1 : l <+: m := List.prefix_of_prefix_length_le (List.prefix_append l ls.flatten) hp (by omega)
    obtain ⟨r, rfl⟩ := h1
    have hr : r ≠ [] := by intro e; subst e; simp at h
    have h2 : r <+: ls.flatten := (List.prefix_append_right_inj l).1 hp
    have := hT.apart _ hm l hl (fun e => hr (by simpa using e)) (List.prefix_append _ _)
    rw [List.drop_left] at this
    exact this (follows_pre ls r ha hr h2)
  · exact h
theorem readGo_cat {L : List (List UInt8)} (hT : Told L) : ∀ (ls : List (List UInt8)) (f o : Nat) (acc : List Int), (∀ m ∈ ls, m ∈ L) → (ls.length ≤ f → (readGo L f ls.flatten o acc).err = 0) ∧ (f < ls.length → (readGo L f ls.flatten o acc).err = 2)
  | [], f, o, acc, _ => by
    constructor
    · intro _; cases f <;> simp [readGo]
    · intro h; simp at h
  | l :: ls, f, o, acc, ha => by
    have hl := ha l (List.mem_cons_self ..)
    have ha' : ∀ m ∈ ls, m ∈ L := fun m hm => ha m (List.mem_cons_of_mem _ hm)
    obtain ⟨k, hk1, hk2⟩ := at_cat hT hl ha'
    have hne : ¬ (l ++ ls.flatten = []) := fun e => by
      have := (hT.len l hl).1
      rw [(List.append_eq_nil_iff.1 e).1] at this
      simp at this
    rw [List.flatten_cons]
    cases f with
    | zero =>
      constructor
      · intro h; simp at h
      · intro _
        unfold readGo
        rw [if_neg hne, hk1]
    | succ f =>
      obtain ⟨i1, i2⟩ := readGo_cat hT ls f (o + l.length) (acc ++ [(k : Int)]) ha'
      have e : readGo L (f + 1) (l ++ ls.flatten) o acc = readGo L f ls.flatten (o + l.length) (acc ++ [(k : Int)]) := by
        conv => lhs; unfold readGo
        rw [if_neg hne, hk1]
        simp only [hk2, Option.getD_some, List.drop_left]
      rw [e, List.length_cons]
      exact ⟨fun h => i1 (by omega), fun h => i2 (by omega)⟩
theorem readGo_ok {L : List (List UInt8)} : ∀ (f : Nat) (t : List UInt8) (o : Nat) (acc : List Int), (readGo L f t o acc).err = 0 → ∃ ls : List (List UInt8), (∀ m ∈ ls, m ∈ L) ∧ t = ls.flatten
  | 0, t, o, acc, h => by
    unfold readGo at h
    split at h
    · rename_i e; exact ⟨[], by simp, by simpa using e⟩
    · split at h <;> simp at h
  | f + 1, t, o, acc, h => by
    unfold readGo at h
    split at h
    · rename_i e; exact ⟨[], by simp, by simpa using e⟩
    · split at h
      · simp at h
      · rename_i k hk
        obtain ⟨l, h1, h2, _⟩ := atN_some hk
        obtain ⟨ls, q1, q2⟩ := readGo_ok f _ _ _ h
        rw [h1] at q2
        simp only [Option.getD_some] at q2
        refine ⟨l :: ls, fun m hm => ?_, by rw [List.flatten_cons, ← q2]; exact prefix_drop h2⟩
        rcases List.mem_cons.1 hm with rfl | hm
        · exact List.mem_of_getElem? h1
        · exact q1 m hm
theorem flatten_len {L : List (List UInt8)} (h : ∀ l ∈ L, 1 ≤ l.length) : ∀ ls : List (List UInt8), (∀ m ∈ ls, m ∈ L) → ls.length ≤ ls.flatten.length
  | [], _ => by simp
  | l :: ls, ha => by
    have h1 := h l (ha l (List.mem_cons_self ..))
    have h2 := flatten_len h ls (fun m hm => ha m (List.mem_cons_of_mem _ hm))
    rw [List.flatten_cons, List.length_append, List.length_cons]
    omega
/-- Reading a text of letters: it is read, or has too many of them. -/
theorem read_cat {L : List (List UInt8)} (hT : Told L) {x : List UInt8} (h : Cat L x) : (readL L x).err = 0 ∨ ((readL L x).err = 2 ∧ 24 < x.length) := by
  obtain ⟨ls, h1, h2, rfl⟩ := cat_iff.1 h
  have hl := flatten_len (fun l hl => (hT.len l hl).1) ls h2
  have hp := List.length_pos_iff.2 h1
  have hne : ¬ ls.flatten = [] := fun e => by rw [e, List.length_nil] at hl; omega
  unfold readL
  rw [if_neg hne]
  obtain ⟨i1, i2⟩ := readGo_cat hT ls 24 0 [] h2
  rcases Nat.lt_or_ge 24 ls.length with h3 | h3
  · exact .inr ⟨i2 h3, by omega⟩
  · exact .inl (i1 h3)
theorem cat_of_read {L : List (List UInt8)} {x : List UInt8} (h : (readL L x).err = 0) : Cat L x := by
  unfold readL at h
  split at h
  · simp at h
  · rename_i hne
    obtain ⟨ls, h1, h2⟩ := readGo_ok 24 x 0 [] h
    exact cat_iff.2 ⟨ls, fun e => hne (by rw [h2, e]; rfl), h1, h2⟩
theorem told_of {A : Alph} (h : Valid10 A) : Told A.bls := by
  refine ⟨h.1.nodup, h.1.len, fun l hl m hm hne hp => ?_⟩
  obtain ⟨a, ha, rfl⟩ := List.mem_map.1 hl
  obtain ⟨b, hb, rfl⟩ := List.mem_map.1 hm
  obtain ⟨i, hi⟩ := List.mem_iff_getElem?.1 ha
  obtain ⟨k, hk⟩ := List.mem_iff_getElem?.1 hb
  rw [bl_length]
  exact h.2 i k a b (fun e => hne (by rw [e, hk] at hi; cases hi; rfl)) hi hk hp
theorem letters_print {A : Alph} (h : Valid10 A) : ∀ l ∈ A.bls, ∀ c ∈ l, 33 ≤ c.toNat ∧ c.toNat ≤ 126 := fun l hl c hc => by
  obtain ⟨a, ha, rfl⟩ := List.mem_map.1 hl
  have h1 := List.all_eq_true.1 (h.1.2.2.2.2.1 a ha).2.2 c hc
  simp [printC] at h1
  omega

theorem copyStates_ge : ∀ (r : List (List UInt8)) (base : Nat), (∀ l ∈ r, 1 ≤ l.length) → base ≤ copyStates base r
  | [], _, _ => Nat.le_refl _
  | l :: r, base, h => by
    have h1 := h l (List.mem_cons_self ..)
    have := copyStates_ge r (base + l.length - 1) (fun m hm => h m (List.mem_cons_of_mem _ hm))
    simp only [copyStates]; omega
theorem copyStates_le : ∀ (r : List (List UInt8)) (base : Nat), (∀ l ∈ r, l.length ≤ 3) → copyStates base r ≤ base + 2 * r.length
  | [], _, _ => Nat.le_refl _
  | l :: r, base, h => by
    have h1 := h l (List.mem_cons_self ..)
    have := copyStates_le r (base + l.length - 1) (fun m hm => h m (List.mem_cons_of_mem _ hm))
    simp only [copyStates, List.length_cons]; omega
theorem copyArcs_len : ∀ (r : List (List UInt8)) (base : Nat), (∀ l ∈ r, l.length ≤ 3) → (copyArcs base r).length ≤ 4 * r.length
  | [], _, _ => by simp [copyArcs]
  | l :: r, base, h => by
    have h1 := h l (List.mem_cons_self ..)
    have := copyArcs_len r (base + l.length - 1) (fun m hm => h m (List.mem_cons_of_mem _ hm))
    simp only [copyArcs, letArcs, List.length_append, List.length_cons, List.length_nil, List.length_map, List.length_range]
    omega
theorem copy_in {n : Nat} : ∀ (r : List (List UInt8)) (base : Nat), 2 ≤ base → (∀ l ∈ r, 1 ≤ l.length) → (∀ l ∈ r, ∀ k, SymOk (byteL l k)) → copyStates base r ≤ n → ∀ a ∈ copyArcs base r, StateOk n a.frm ∧ StateOk n a.to ∧ SymOk a.inp ∧ SymOk a.out
  | [], _, _, _, _, _ => fun a ha => by simp [copyArcs] at ha
  | l :: r, base, hb, hl, hs, hn => by
    have h1 := hl l (List.mem_cons_self ..)
    have hr : ∀ m ∈ r, 1 ≤ m.length := fun m hm => hl m (List.mem_cons_of_mem _ hm)
    have hge := copyStates_ge r (base + l.length - 1) hr
    simp only [copyStates] at hn
    have hto : ∀ k, k < l.length → StateOk n (letTo l base k) := fun k hk => by
      unfold letTo StateOk
      split <;> omega
    have hsl := hs l (List.mem_cons_self ..)
    intro a ha
    simp only [copyArcs, List.mem_append] at ha
    rcases ha with ha | ha
    · unfold letArcs at ha
      simp only [List.mem_append, List.mem_cons, List.not_mem_nil, or_false, List.mem_map, List.mem_range] at ha
      rcases ha with (rfl | rfl) | ⟨j, hj, rfl⟩
      · exact ⟨⟨by show (0 : Int) ≤ 0; omega, by show (0 : Int) < n; omega⟩, hto 0 (by omega), hsl 0, hsl 0⟩
      · exact ⟨⟨by show (0 : Int) ≤ 1; omega, by show (1 : Int) < n; omega⟩, hto 0 (by omega), hsl 0, hsl 0⟩
      · exact ⟨⟨by show (0 : Int) ≤ (base : Int) + (j : Int); omega, by show (base : Int) + (j : Int) < n; omega⟩, hto (j + 1) (by omega), hsl _, hsl _⟩
    · exact copy_in r (base + l.length - 1) (by omega) hr (fun m hm => hs m (List.mem_cons_of_mem _ hm)) hn a ha
theorem CopyM.valid {A : Alph} (hA : Valid10 A) {C : Mach} (h : CopyM A.bls C) : ValidM C := by
  have hT := told_of hA
  have h64 : A.bls.length ≤ 64 := by unfold Alph.bls; rw [List.length_map]; exact hA.1.2.2.1
  have hn : ∀ l ∈ A.bls, 1 ≤ l.length := fun l hl => (hT.len l hl).1
  have h3 : ∀ l ∈ A.bls, l.length ≤ 3 := fun l hl => (hT.len l hl).2
  have hs : ∀ l ∈ A.bls, ∀ k, SymOk (byteL l k) := fun l hl k => by
    unfold byteL
    cases hk : l[k]? with
    | none => exact .inl rfl
    | some c =>
      have := letters_print hA l hl c (List.mem_of_getElem? hk)
      exact .inr ⟨by show (33 : Int) ≤ (c.toNat : Int); omega, by show (c.toNat : Int) ≤ 126; omega⟩
  have hge := copyStates_ge A.bls 2 hn
  have hle := copyStates_le A.bls 2 h3
  have hal := copyArcs_len A.bls 2 h3
  have hcl := nodup_len h.arcsInc.nodup (fun y hy => (h.mem y).1 hy)
  have hst := h.states
  refine ⟨by omega, by omega, by rw [h.start, hst]; exact ⟨by omega, by omega⟩, by omega, fun s hs' => ?_, by rw [h.final]; simp, fun a ha => ?_, h.arcsInc⟩
  · rw [h.final] at hs'
    obtain rfl := List.mem_singleton.1 hs'
    rw [hst]
    exact ⟨by omega, by omega⟩
  · rw [hst]
    exact copy_in A.bls 2 (Nat.le_refl _) hn hs (Nat.le_refl _) a ((h.mem a).1 ha)
/-- The copy machine of an alphabet reads no silent circle: it has no silent arc. -/
theorem CopyM.plain {A : Alph} (hA : Valid10 A) {C : Mach} (h : CopyM A.bls C) : ¬ Circle C := by
  have hT := told_of hA
  rintro ⟨s, hs⟩
  obtain ⟨c, ⟨a, ha, _⟩, _⟩ := way_first hs
  obtain ⟨h1, _, h3⟩ := mem_runA.1 ha
  obtain ⟨⟨l, hl, k, q1, q2, _⟩, _⟩ := copy_from A.bls 2 (Nat.le_refl _) (fun l hl => (hT.len l hl).1) a ((h.mem a).1 h1)
  rw [h3] at q2
  unfold byteL at q2
  rw [List.getElem?_eq_getElem q1] at q2
  have := letters_print hA l hl _ (List.getElem_mem q1)
  simp only at q2
  omega
end Go.Proofs.YtgaldlecnfekaaaGreatDoor

/- Plain words: the machines of layer 14's examples. No program in sight. -/
namespace Go.Proofs.YtgaldlecnfekaaaGreatDoor
open Go Classical

theorem trim_self {N : Mach} (hvN : ValidM N) (hall : ∀ v, StateOk N.states v → Kept N v) : trimM N = N := by
  have hnum : ∀ v, 0 ≤ v → v ≤ N.states → numI N v = v := fun v h0 h1 => by
    unfold numI
    rw [num_all hall v.toNat (by omega)]
    omega
  have hst := hvN.start
  have h1 := hvN.one
  have hf : (N.final.filter (fun s => decide (Kept N s))).map (numI N) = N.final := by
    rw [List.filter_eq_self.2 (fun s hs => by simpa using hall s (hvN.final s hs))]
    conv => rhs; rw [← List.map_id N.final]
    refine List.map_congr_left (fun s hs => ?_)
    have := hvN.final s hs
    exact hnum s this.1 (by have := this.2; omega)
  have ha : (N.arcs.filter (fun a => decide (Kept N a.frm ∧ Kept N a.to))).map (Arc.num N) = N.arcs := by
    rw [List.filter_eq_self.2 (fun a ha => by
      obtain ⟨q1, q2, _⟩ := hvN.arcs a ha
      simpa using ⟨hall _ q1, hall _ q2⟩)]
    conv => rhs; rw [← List.map_id N.arcs]
    refine List.map_congr_left (fun a ha => ?_)
    obtain ⟨⟨q1, q2⟩, ⟨q3, q4⟩, _⟩ := hvN.arcs a ha
    show (⟨numI N a.frm, a.inp, a.out, numI N a.to⟩ : Arc) = a
    rw [hnum _ q1 (by omega), hnum _ q3 (by omega)]
  unfold trimM
  rw [hf, ha, hnum _ (by omega) (Int.le_refl _), hnum _ hst.1 (by have := hst.2; omega)]

/-- Places that are closed under arcs that read nothing bound what is reached. -/
theorem cl_bound {M : Mach} {S : Plc → Prop} {ks : List Plc} (hS : ∀ p, S p → p ∈ ks) (hc : ∀ p ∈ ks, ∀ a ∈ M.arcs, a.frm = p.st → a.inp = 0 → (⟨a.to, afterB p.tx a.out⟩ : Plc) ∈ ks) {p : Plc} (h : Cl M S p) : p ∈ ks := by
  induction h with
  | base h0 => exact hS _ h0
  | more _ hg ih =>
    obtain ⟨a, ha, e1, e2, rfl⟩ := hg
    exact hc _ ih a ha e1 e2
theorem reach_bound0 {M : Mach} {ks : List Plc} (h0 : (⟨M.start, ⟨#[]⟩⟩ : Plc) ∈ ks) (hc : ∀ p ∈ ks, ∀ a ∈ M.arcs, a.frm = p.st → a.inp = 0 → (⟨a.to, afterB p.tx a.out⟩ : Plc) ∈ ks) {p : Plc} (h : Reach M [] p) : p ∈ ks := by
  rw [Reach_nil] at h
  exact cl_bound (fun q e => by rw [e]; exact h0) hc h
theorem reach_bound1 {M : Mach} {l : List UInt8} {b : UInt8} (hb : b ≠ 0) {ks js : List Plc} (hk : ∀ p, Reach M l p → p ∈ ks) (hs : ∀ p ∈ ks, ∀ a ∈ M.arcs, a.frm = p.st → a.inp = (b.toNat : Int) → (⟨a.to, afterB p.tx a.out⟩ : Plc) ∈ js)
    (hc : ∀ p ∈ js, ∀ a ∈ M.arcs, a.frm = p.st → a.inp = 0 → (⟨a.to, afterB p.tx a.out⟩ : Plc) ∈ js) {p : Plc} (h : Reach M (l ++ [b]) p) : p ∈ js := by
  rw [Reach_snoc _ _ _ hb] at h
  refine cl_bound (fun q hq => ?_) hc h
  unfold Setout at hq
  rw [if_neg (byte_ne hb)] at hq
  obtain ⟨q', h1, a, ha, e1, e2, rfl⟩ := hq
  exact hs _ (hk _ h1) a ha e1 e2

def firstM : Mach := ⟨2, 0, [1], [⟨0, 97, 120, 1⟩]⟩
def secondM : Mach := ⟨2, 0, [0, 1], [⟨0, 0, 117, 1⟩, ⟨0, 120, 118, 0⟩, ⟨1, 120, 119, 1⟩]⟩
def wantC : Mach := ⟨4, 0, [1, 3], [⟨0, 0, 117, 2⟩, ⟨0, 97, 118, 1⟩, ⟨1, 0, 117, 3⟩, ⟨2, 97, 119, 3⟩]⟩
def wantCopy : Mach := ⟨3, 0, [1], [⟨0, 97, 97, 1⟩, ⟨0, 98, 98, 2⟩, ⟨1, 97, 97, 1⟩, ⟨1, 98, 98, 2⟩, ⟨2, 99, 99, 1⟩]⟩
def wantBoth : Mach := ⟨5, 4, [1, 3], [⟨0, 97, 120, 1⟩, ⟨2, 97, 120, 3⟩, ⟨4, 97, 120, 1⟩, ⟨4, 97, 120, 3⟩]⟩

theorem comp_first : composeO firstM secondM = ⟨[(0, 0), (1, 0), (0, 1), (1, 1)], [⟨0, 97, 118, 1⟩, ⟨0, 0, 117, 2⟩, ⟨1, 0, 117, 3⟩, ⟨2, 97, 119, 3⟩]⟩ := by
  rfl
theorem copy_first : copyArcs 2 [[97], [98, 99]] = [⟨0, 97, 97, 1⟩, ⟨1, 97, 97, 1⟩, ⟨0, 98, 98, 2⟩, ⟨1, 98, 98, 2⟩, ⟨2, 99, 99, 1⟩] ∧ copyStates 2 [[97], [98, 99]] = 3 := by
  exact ⟨rfl, rfl⟩

theorem valid_of {M : Mach} (h1 : 1 ≤ M.states ∧ M.states ≤ 4000 ∧ 0 ≤ M.start ∧ M.start < M.states ∧ M.arcs.length ≤ 20000) (hf : ∀ s ∈ M.final, 0 ≤ s ∧ s < M.states) (hi : M.final.Pairwise (· < ·))
    (ha : ∀ a ∈ M.arcs, (0 ≤ a.frm ∧ a.frm < M.states) ∧ (0 ≤ a.to ∧ a.to < M.states) ∧ (a.inp = 0 ∨ (33 ≤ a.inp ∧ a.inp ≤ 126)) ∧ (a.out = 0 ∨ (33 ≤ a.out ∧ a.out ≤ 126)))
    (hp : M.arcs.Pairwise (fun a b => a.frm < b.frm ∨ a.frm = b.frm ∧ (a.inp < b.inp ∨ a.inp = b.inp ∧ (a.out < b.out ∨ a.out = b.out ∧ a.to < b.to)))) : ValidM M :=
  ⟨h1.1, h1.2.1, ⟨h1.2.2.1, h1.2.2.2.1⟩, h1.2.2.2.2, hf, hi, ha, hp⟩
theorem firstM_valid : ValidM firstM := valid_of (by decide) (by decide) (by decide) (by decide) (by decide)
theorem secondM_valid : ValidM secondM := valid_of (by decide) (by decide) (by decide) (by decide) (by decide)
theorem wantC_valid : ValidM wantC := valid_of (by decide) (by decide) (by decide) (by decide) (by decide)
theorem wantC_kept : ∀ v, StateOk wantC.states v → Kept wantC v := by
  have f2 : Fwd wantC 2 := .inr (.one ⟨⟨0, 0, 117, 2⟩, by decide, rfl, rfl⟩)
  have f1 : Fwd wantC 1 := .inr (.one ⟨⟨0, 97, 118, 1⟩, by decide, rfl, rfl⟩)
  have e23 : Ar wantC 2 3 := ⟨⟨2, 97, 119, 3⟩, by decide, rfl, rfl⟩
  have f3 : Fwd wantC 3 := wayR_trans f2 (.inr (.one e23))
  intro v hv
  have h1 : 0 ≤ v := hv.1
  have h2 : v < 4 := hv.2
  rcases (show v = 0 ∨ v = 1 ∨ v = 2 ∨ v = 3 by omega) with rfl | rfl | rfl | rfl
  · exact .inl rfl
  · exact .inr ⟨f1, 1, by decide, .inl rfl⟩
  · exact .inr ⟨f2, 3, by decide, .inr (.one e23)⟩
  · exact .inr ⟨f3, 3, by decide, .inl rfl⟩
/-- Compose of the examples. -/
theorem composed_want {C : Mach} (h : ∃ C0, CompM firstM secondM C0 (composeO firstM secondM).ord (composeO firstM secondM).arcs ∧ C = trimM C0) : C = wantC := by
  obtain ⟨C0, h0, rfl⟩ := h
  have e1 : C0.states = 4 := h0.states.trans (by rw [comp_first]; rfl)
  have e2 : C0.arcs = wantC.arcs := Increasing.ext h0.arcsInc wantC_valid.arcsInc (fun a => by
    rw [h0.mem, comp_first]
    simp [wantC]
    constructor
    · rintro (h | h | h | h) <;> simp [h]
    · rintro (h | h | h | h) <;> simp [h])
  have e3 : C0.final = wantC.final := by
    have hm : ∀ s, s ∈ C0.final ↔ s ∈ ([1, 3] : List Int) := fun s => by
      rw [h0.final s, comp_first]
      constructor
      · rintro ⟨j, z, rfl, h1, h2, h3⟩
        match j, h1 with
        | 0, h1 => cases h1; simp [firstM] at h2
        | 1, h1 => simp
        | 2, h1 => cases h1; simp [firstM] at h2
        | 3, h1 => simp
        | j + 4, h1 => simp at h1
      · intro hs
        rcases (by simpa using hs : s = 1 ∨ s = 3) with rfl | rfl
        · exact ⟨1, (1, 0), rfl, rfl, by simp [firstM], by simp [secondM]⟩
        · exact ⟨3, (1, 1), rfl, rfl, by simp [firstM], by simp [secondM]⟩
    exact inc_ints h0.inc (by decide) hm
  have e : C0 = wantC := by
    obtain ⟨a, b, c, d⟩ := C0
    simp only at e1 e2 e3
    have hs : b = 0 := h0.start
    subst e1 e2 e3 hs
    rfl
  rw [e]
  exact trim_self wantC_valid wantC_kept
where
  inc_ints {a b : List Int} (ha : a.Pairwise (· < ·)) (hb : b.Pairwise (· < ·)) (h : ∀ s, s ∈ a ↔ s ∈ b) : a = b := by
    induction a generalizing b with
    | nil =>
      cases b with
      | nil => rfl
      | cons y b => have := (h y).2 (List.mem_cons_self ..); simp at this
    | cons x a ih =>
      cases b with
      | nil => have := (h x).1 (List.mem_cons_self ..); simp at this
      | cons y b =>
        obtain ⟨a1, a2⟩ := List.pairwise_cons.1 ha
        obtain ⟨b1, b2⟩ := List.pairwise_cons.1 hb
        have e : x = y := by
          have h1 := (h x).1 (List.mem_cons_self ..)
          have h2 := (h y).2 (List.mem_cons_self ..)
          rcases List.mem_cons.1 h1 with e | h1
          · exact e
          · rcases List.mem_cons.1 h2 with e | h2
            · exact e.symm
            · have := b1 x h1; have := a1 y h2; omega
        subst e
        congr 1
        refine ih a2 b2 (fun s => ?_)
        constructor
        · intro hs
          rcases List.mem_cons.1 ((h s).1 (List.mem_cons_of_mem _ hs)) with e | hs'
          · have := a1 s hs; omega
          · exact hs'
        · intro hs
          rcases List.mem_cons.1 ((h s).2 (List.mem_cons_of_mem _ hs)) with e | hs'
          · have := b1 s hs; omega
          · exact hs'

theorem wantC_plain : ¬ Circle wantC := by
  have hed : ∀ a b, Ed wantC a b → (a = 0 ∧ b = 2) ∨ (a = 1 ∧ b = 3) := fun a b h => by
    obtain ⟨c, hc, rfl⟩ := h
    obtain ⟨h1, h2, h3⟩ := mem_runA.1 hc
    simp only [wantC, List.mem_cons, List.not_mem_nil, or_false] at h1
    rcases h1 with rfl | rfl | rfl | rfl <;> simp at h2 h3 ⊢ <;> omega
  have hw : ∀ a b, Way (Ed wantC) a b → (a = 0 ∨ a = 1) ∧ (b = 2 ∨ b = 3) := fun a b h => by
    induction h with
    | one h1 => have := hed _ _ h1; omega
    | more _ h1 ih => have := hed _ _ h1; omega
  rintro ⟨s, hs⟩
  have := hw s s hs
  omega
def tx (l : List UInt8) : ByteArray := ⟨l.toArray⟩
theorem afterB_tx (l : List UInt8) (c : Int) : afterB (tx l) c = tx (l ++ symb c) := bl_inj (by rw [bl_afterB]; simp [tx, bl])
theorem wantC_r0 {p : Plc} (h : Reach wantC [] p) : p ∈ ([⟨0, tx []⟩, ⟨2, tx [117]⟩] : List Plc) := by
  refine reach_bound0 (by simp [wantC, tx]) (fun q hq a ha e1 e2 => ?_) h
  simp only [wantC, List.mem_cons, List.not_mem_nil, or_false] at hq ha
  rcases hq with rfl | rfl <;> rcases ha with rfl | rfl | rfl | rfl <;> simp at e1 e2 <;> rw [afterB_tx] <;> simp [symb]
theorem wantC_r1 {p : Plc} (h : Reach wantC [97] p) : p ∈ ([⟨1, tx [118]⟩, ⟨3, tx [117, 119]⟩, ⟨3, tx [118, 117]⟩] : List Plc) := by
  refine reach_bound1 (l := []) (b := 97) (by decide) (fun q hq => wantC_r0 hq) (fun q hq a ha e1 e2 => ?_) (fun q hq a ha e1 e2 => ?_) h
  · simp only [wantC, List.mem_cons, List.not_mem_nil, or_false] at hq ha
    rcases hq with rfl | rfl <;> rcases ha with rfl | rfl | rfl | rfl <;> simp at e1 e2 <;> rw [afterB_tx] <;> simp [symb]
  · simp only [wantC, List.mem_cons, List.not_mem_nil, or_false] at hq ha
    rcases hq with rfl | rfl | rfl <;> rcases ha with rfl | rfl | rfl | rfl <;> simp at e1 e2 <;> rw [afterB_tx] <;> simp [symb]
theorem want_run {ts : List ByteArray} {err : Int} (h : RunsOf wantC [97] ts err) : err = 0 ∧ ts = [tx [117, 119], tx [118], tx [118, 117]] := by
  have few : ∀ i, i ≤ ([97] : List UInt8).length → FewPl (Reach wantC (([97] : List UInt8).take i)) := fun i hi => by
    rcases (show i = 0 ∨ i = 1 by simp at hi; omega) with rfl | rfl
    · exact ⟨_, by decide, fun p hp => wantC_r0 hp⟩
    · exact ⟨_, by decide, fun p hp => wantC_r1 hp⟩
  rcases runs_cases h wantC_valid (by decide) with ⟨_, c⟩ | ⟨_, ⟨_, i, hi, hf⟩ | ⟨e, _, s, m⟩⟩
  · exact absurd c wantC_plain
  · exact absurd (few i hi) hf
  · refine ⟨e, s.ext ⟨by simp [tx, bl]; decide, by simp [tx, bl]⟩ (fun t => (m t).trans ?_)⟩
    have hsy : ∀ a ∈ wantC.arcs, SymOk a.inp := fun a ha => (wantC_valid.arcs a ha).2.2.1
    constructor
    · rintro ⟨_, s, hs, hr⟩
      have := wantC_r1 hr
      simp only [List.mem_cons, Plc.mk.injEq, List.not_mem_nil, or_false] at this ⊢
      rcases this with ⟨_, h⟩ | ⟨_, h⟩ | ⟨_, h⟩
      · exact .inr (.inl h)
      · exact .inl h
      · exact .inr (.inr h)
    · intro ht
      rw [result_iff hsy]
      have a1 : (⟨0, 0, 117, 2⟩ : Arc) ∈ wantC.arcs := by decide
      have a2 : (⟨0, 97, 118, 1⟩ : Arc) ∈ wantC.arcs := by decide
      have a3 : (⟨1, 0, 117, 3⟩ : Arc) ∈ wantC.arcs := by decide
      have a4 : (⟨2, 97, 119, 3⟩ : Arc) ∈ wantC.arcs := by decide
      have w1 : Walk wantC.arcs wantC.start [97] [118] 1 := Walk.more .nil a2 rfl rfl
      simp only [List.mem_cons, List.not_mem_nil, or_false] at ht
      rcases ht with rfl | rfl | rfl
      · exact ⟨3, by decide, Walk.more (Walk.more (x' := []) (y' := [117]) .nil a1 rfl rfl) a4 rfl rfl⟩
      · exact ⟨1, by decide, w1⟩
      · exact ⟨3, by decide, Walk.more w1 a3 rfl rfl⟩

theorem wantCopy_valid : ValidM wantCopy := valid_of (by decide) (by decide) (by decide) (by decide) (by decide)
theorem wantBoth_valid : ValidM wantBoth := valid_of (by decide) (by decide) (by decide) (by decide) (by decide)
theorem copy_want {C : Mach} (h : CopyM [[97], [98, 99]] C) : C = wantCopy := by
  have e1 : C.states = 3 := h.states.trans (by rw [copy_first.2]; rfl)
  have e2 : C.arcs = wantCopy.arcs := Increasing.ext h.arcsInc wantCopy_valid.arcsInc (fun a => by
    rw [h.mem, copy_first.1]
    simp [wantCopy]
    constructor
    · rintro (h | h | h | h | h) <;> simp [h]
    · rintro (h | h | h | h | h) <;> simp [h])
  have e3 := h.final
  have e4 := h.start
  obtain ⟨a, b, c, d⟩ := C
  simp only at e1 e2 e3 e4
  subst e1 e2 e3 e4
  rfl
theorem union_want {U : Mach} (h : UnionM firstM firstM U) : U = wantBoth := by
  have e1 : U.states = 5 := h.states
  have e4 : U.start = 4 := h.start
  have e2 : U.arcs = wantBoth.arcs := Increasing.ext h.arcsInc wantBoth_valid.arcsInc (fun a => by
    rw [h.mem, e4]
    simp [wantBoth, firstM])
  have e3 : U.final = [1, 3] := composed_want.inc_ints h.inc (by decide) (fun s => by
    rw [h.final]
    simp [firstM])
  obtain ⟨a, b, c, d⟩ := U
  simp only at e1 e2 e3 e4
  subst e1 e2 e3 e4
  rfl
end Go.Proofs.YtgaldlecnfekaaaGreatDoor

/- Plain words: what composing, uniting and copying answer. No program in sight. -/
namespace Go.Proofs.YtgaldlecnfekaaaGreatDoor
open Go Classical

def zeroM : Mach := ⟨0, 0, [], []⟩
theorem zeroM_not : ¬ ValidM zeroM := fun h => by have := h.one; simp [zeroM] at this
/-- The arcs of a list in order, each once. -/
def ArcsOf (l S : List Arc) : Prop := Increasing S ∧ ∀ a, a ∈ S ↔ a ∈ l
theorem ArcsOf.uniq {l S S' : List Arc} (h : ArcsOf l S) (h' : ArcsOf l S') : S = S' := Increasing.ext h.1 h'.1 (fun a => by rw [h.2, h'.2])
theorem ArcsOf.len {l S : List Arc} (h : ArcsOf l S) : S.length ≤ l.length := nodup_len h.1.nodup (fun a ha => (h.2 a).1 ha)

/-- A pair of final states. -/
def FinP (M N : Mach) (ord : List (Int × Int)) (j : Nat) : Prop := ∃ z, ord[j]? = some z ∧ z.1 ∈ M.final ∧ z.2 ∈ N.final
noncomputable def finO (M N : Mach) (ord : List (Int × Int)) (i : Nat) : List Int := ((List.range i).filter (fun j => decide (FinP M N ord j))).map (fun j : Nat => (j : Int))
theorem finO_succ (M N : Mach) (ord : List (Int × Int)) (i : Nat) : finO M N ord (i + 1) = finO M N ord i ++ (if FinP M N ord i then [(i : Int)] else []) := by
  unfold finO
  rw [List.range_succ, List.filter_append, List.map_append]
  congr 1
  by_cases h : FinP M N ord i <;> simp [h]
theorem finP_prefix {M N : Mach} {l l' : List (Int × Int)} (h : l <+: l') {j : Nat} (hj : j < l.length) : FinP M N l' j ↔ FinP M N l j := by
  have h1 : l[j]? = some l[j] := List.getElem?_eq_getElem hj
  have h2 := get_prefix h h1
  unfold FinP
  rw [h1, h2]
theorem finO_prefix {M N : Mach} {l l' : List (Int × Int)} (h : l <+: l') : ∀ i, i ≤ l.length → finO M N l' i = finO M N l i
  | 0, _ => rfl
  | i + 1, hi => by
    rw [finO_succ, finO_succ, finO_prefix h i (by omega)]
    congr 1
    by_cases h1 : FinP M N l i
    · rw [if_pos h1, if_pos ((finP_prefix h (by omega)).2 h1)]
    · rw [if_neg h1, if_neg (fun h2 => h1 ((finP_prefix h (by omega)).1 h2))]
theorem mem_finO {M N : Mach} {ord : List (Int × Int)} {i : Nat} {s : Int} : s ∈ finO M N ord i ↔ ∃ j : Nat, j < i ∧ s = j ∧ FinP M N ord j := by
  unfold finO
  simp only [List.mem_map, List.mem_filter, List.mem_range, decide_eq_true_eq]
  constructor
  · rintro ⟨j, ⟨h1, h2⟩, rfl⟩; exact ⟨j, h1, rfl, h2⟩
  · rintro ⟨j, h1, rfl, h2⟩; exact ⟨j, ⟨h1, h2⟩, rfl⟩
theorem finO_inc (M N : Mach) (ord : List (Int × Int)) (i : Nat) : (finO M N ord i).Pairwise (· < ·) := by
  unfold finO
  rw [List.pairwise_map]
  refine List.Pairwise.imp (fun {a b} h => ?_) (List.Pairwise.filter _ List.pairwise_lt_range)
  show (a : Int) < (b : Int)
  omega
theorem finO_len (M N : Mach) (ord : List (Int × Int)) (i : Nat) : (finO M N ord i).length ≤ i := by
  unfold finO
  rw [List.length_map]
  exact Nat.le_trans (List.length_filter_le _ _) (by simp)

/-- The composition before it is trimmed. -/
noncomputable def rawM (M N : Mach) (S : List Arc) : Mach := ⟨((composeO M N).ord.length : Nat), 0, finO M N (composeO M N).ord (composeO M N).ord.length, S⟩
def Big (M N : Mach) (S : List Arc) : Prop := 4000 < (composeO M N).ord.length ∨ 20000 < S.length
def CompOut (M N C : Mach) (err : Int) : Prop :=
  (¬ (ValidM M ∧ ValidM N) ∧ err = 1 ∧ C = zeroM) ∨ (ValidM M ∧ ValidM N ∧ ∃ S, ArcsOf (composeO M N).arcs S ∧ ((Big M N S ∧ err = 2 ∧ C = zeroM) ∨ (¬ Big M N S ∧ err = 0 ∧ C = trimM (rawM M N S))))
section
variable {M N C C' : Mach} {e e' : Int}
theorem CompOut.uniq (h : CompOut M N C e) (h' : CompOut M N C' e') : C = C' ∧ e = e' := by
  rcases h with ⟨n, rfl, rfl⟩ | ⟨hM, hN, S, hS, h⟩ <;> rcases h' with ⟨n', rfl, rfl⟩ | ⟨hM', hN', S', hS', h'⟩
  · exact ⟨rfl, rfl⟩
  · exact absurd ⟨hM', hN'⟩ n
  · exact absurd ⟨hM, hN⟩ n'
  · obtain rfl := hS.uniq hS'
    rcases h with ⟨b, rfl, rfl⟩ | ⟨b, rfl, rfl⟩ <;> rcases h' with ⟨b', rfl, rfl⟩ | ⟨b', rfl, rfl⟩
    · exact ⟨rfl, rfl⟩
    · exact absurd b b'
    · exact absurd b' b
    · exact ⟨rfl, rfl⟩
theorem raw_comp (hM : ValidM M) (hN : ValidM N) {S : List Arc} (hS : ArcsOf (composeO M N).arcs S) (hb : ¬ Big M N S) : CompM M N (rawM M N S) (composeO M N).ord (composeO M N).arcs ∧ ValidM (rawM M N S) := by
  unfold Big at hb
  have h1 : CompM M N (rawM M N S) (composeO M N).ord (composeO M N).arcs := ⟨comp_of (by omega), rfl, rfl, fun s => by
    show s ∈ finO M N _ _ ↔ _
    rw [mem_finO]
    constructor
    · rintro ⟨j, _, rfl, z, h1, h2, h3⟩; exact ⟨j, z, rfl, h1, h2, h3⟩
    · rintro ⟨j, z, rfl, h1, h2, h3⟩
      exact ⟨j, (List.getElem?_eq_some_iff.1 h1).1, rfl, z, h1, h2, h3⟩, finO_inc _ _ _ _, hS.1, hS.2⟩
  exact ⟨h1, h1.valid hM hN (by omega) (by show S.length ≤ _; omega)⟩
theorem CompOut.cases (h : CompOut M N C e) : (e = 1 ∧ ¬ (ValidM M ∧ ValidM N) ∧ C = zeroM) ∨ (e = 2 ∧ ValidM M ∧ ValidM N ∧ C = zeroM) ∨ (e = 0 ∧ ValidM M ∧ ValidM N ∧ Composed M N C) := by
  rcases h with ⟨n, rfl, rfl⟩ | ⟨hM, hN, S, hS, ⟨b, rfl, rfl⟩ | ⟨b, rfl, rfl⟩⟩
  · exact .inl ⟨rfl, n, rfl⟩
  · exact .inr (.inl ⟨rfl, hM, hN, rfl⟩)
  · obtain ⟨h1, h2⟩ := raw_comp hM hN hS b
    exact .inr (.inr ⟨rfl, hM, hN, _, _, _, h1, h2, rfl⟩)
/-- Small machines have no limit. -/
theorem CompOut.small (h : CompOut M N C e) (hM : ValidM M) (hN : ValidM N) (m8 : M.states ≤ 8) (n8 : N.states ≤ 8) (ma : M.arcs.length ≤ 14) (na : N.arcs.length ≤ 14) : e = 0 := by
  rcases h with ⟨n, _, _⟩ | ⟨_, _, S, hS, ⟨b, _, _⟩ | ⟨_, rfl, _⟩⟩
  · exact absurd ⟨hM, hN⟩ n
  · exfalso
    obtain ⟨h1, h2⟩ := compose_small hM hN (a := 8) (b := 8) m8 n8
    have h3 := hS.len
    have h4 : M.arcs.length * (N.arcs.length + 1) ≤ 14 * 15 := Nat.mul_le_mul ma (by omega)
    have h5 : (composeO M N).ord.length * (M.arcs.length * (N.arcs.length + 1) + N.arcs.length) ≤ 64 * 224 := Nat.mul_le_mul h1 (by omega)
    unfold Big at b
    omega
  · rfl
end

def UnionOut (M N U : Mach) (err : Int) : Prop :=
  (¬ (ValidM M ∧ ValidM N) ∧ err = 1 ∧ U = zeroM) ∨ (ValidM M ∧ ValidM N ∧ ∃ U0, UnionM M N U0 ∧ (((4000 < U0.states ∨ 20000 < U0.arcs.length) ∧ err = 2 ∧ U = zeroM) ∨ (¬ (4000 < U0.states ∨ 20000 < U0.arcs.length) ∧ err = 0 ∧ U = U0)))
theorem UnionM.uniq {M N U U' : Mach} (h : UnionM M N U) (h' : UnionM M N U') : U = U' := by
  have e1 : U.states = U'.states := h.states.trans h'.states.symm
  have e2 : U.start = U'.start := h.start.trans h'.start.symm
  have e3 : U.final = U'.final := composed_want.inc_ints h.inc h'.inc (fun s => by rw [h.final, h'.final, e2])
  have e4 : U.arcs = U'.arcs := Increasing.ext h.arcsInc h'.arcsInc (fun a => by rw [h.mem, h'.mem, e2])
  obtain ⟨a, b, c, d⟩ := U
  obtain ⟨a', b', c', d'⟩ := U'
  simp only at e1 e2 e3 e4
  subst e1 e2 e3 e4
  rfl
theorem UnionOut.uniq {M N U U' : Mach} {e e' : Int} (h : UnionOut M N U e) (h' : UnionOut M N U' e') : U = U' ∧ e = e' := by
  rcases h with ⟨n, rfl, rfl⟩ | ⟨hM, hN, S, hS, h⟩ <;> rcases h' with ⟨n', rfl, rfl⟩ | ⟨hM', hN', S', hS', h'⟩
  · exact ⟨rfl, rfl⟩
  · exact absurd ⟨hM', hN'⟩ n
  · exact absurd ⟨hM, hN⟩ n'
  · obtain rfl := hS.uniq hS'
    rcases h with ⟨b, rfl, rfl⟩ | ⟨b, rfl, rfl⟩ <;> rcases h' with ⟨b', rfl, rfl⟩ | ⟨b', rfl, rfl⟩
    · exact ⟨rfl, rfl⟩
    · exact absurd b b'
    · exact absurd b' b
    · exact ⟨rfl, rfl⟩
theorem UnionOut.cases {M N U : Mach} {e : Int} (h : UnionOut M N U e) : (e = 1 ∧ ¬ (ValidM M ∧ ValidM N) ∧ U = zeroM) ∨ (e = 2 ∧ ValidM M ∧ ValidM N ∧ U = zeroM ∧ (4000 < M.states + N.states + 1 ∨ 20000 < 2 * (M.arcs.length + N.arcs.length))) ∨ (e = 0 ∧ ValidM M ∧ ValidM N ∧ UnionM M N U ∧ ValidM U) := by
  rcases h with ⟨n, rfl, rfl⟩ | ⟨hM, hN, U0, hU, ⟨b, rfl, rfl⟩ | ⟨b, rfl, rfl⟩⟩
  · exact .inl ⟨rfl, n, rfl⟩
  · refine .inr (.inl ⟨rfl, hM, hN, rfl, ?_⟩)
    rcases b with b | b
    · rw [hU.states] at b; exact .inl b
    · right
      have h1 : U0.arcs.length ≤ (M.arcs ++ N.arcs.map (fun b : Arc => (⟨b.frm + M.states, b.inp, b.out, b.to + M.states⟩ : Arc)) ++ M.arcs.map (fun b : Arc => (⟨U0.start, b.inp, b.out, b.to⟩ : Arc)) ++ N.arcs.map (fun b : Arc => (⟨U0.start, b.inp, b.out, b.to + M.states⟩ : Arc))).length := nodup_len hU.arcsInc.nodup (fun a ha => by
        simp only [List.mem_append, List.mem_map]
        rcases (hU.mem a).1 ha with h | ⟨b, h, rfl⟩ | ⟨b, h, _, rfl⟩ | ⟨b, h, _, rfl⟩
        · exact .inl (.inl (.inl h))
        · exact .inl (.inl (.inr ⟨b, h, rfl⟩))
        · exact .inl (.inr ⟨b, h, rfl⟩)
        · exact .inr ⟨b, h, rfl⟩)
      simp only [List.length_append, List.length_map] at h1
      omega
  · exact .inr (.inr ⟨rfl, hM, hN, hU, hU.valid hM hN (by omega) (by omega)⟩)

def CopyOut (A : Alph) (C : Mach) (err : Int) : Prop := (¬ Valid10 A ∧ err = 1 ∧ C = zeroM) ∨ (Valid10 A ∧ err = 0 ∧ CopyM A.bls C)
theorem CopyM.uniq {L : List (List UInt8)} {C C' : Mach} (h : CopyM L C) (h' : CopyM L C') : C = C' := by
  have e1 : C.states = C'.states := h.states.trans h'.states.symm
  have e2 : C.start = C'.start := h.start.trans h'.start.symm
  have e3 : C.final = C'.final := h.final.trans h'.final.symm
  have e4 : C.arcs = C'.arcs := Increasing.ext h.arcsInc h'.arcsInc (fun a => by rw [h.mem, h'.mem])
  obtain ⟨a, b, c, d⟩ := C
  obtain ⟨a', b', c', d'⟩ := C'
  simp only at e1 e2 e3 e4
  subst e1 e2 e3 e4
  rfl
theorem CopyOut.uniq {A : Alph} {C C' : Mach} {e e' : Int} (h : CopyOut A C e) (h' : CopyOut A C' e') : C = C' ∧ e = e' := by
  rcases h with ⟨n, rfl, rfl⟩ | ⟨v, rfl, h⟩ <;> rcases h' with ⟨n', rfl, rfl⟩ | ⟨v', rfl, h'⟩
  · exact ⟨rfl, rfl⟩
  · exact absurd v' n
  · exact absurd v n'
  · exact ⟨h.uniq h', rfl⟩
end Go.Proofs.YtgaldlecnfekaaaGreatDoor

/- Plain words: a machine composed with the copy of an alphabet. No program in sight. -/
namespace Go.Proofs.YtgaldlecnfekaaaGreatDoor
open Go Classical

section
variable {A : Alph} {M C D : Mach}
theorem copy_result (hA : Valid10 A) (h : CopyM A.bls C) {x : List UInt8} {t : ByteArray} : Result C x t ↔ bl t = x ∧ Cat A.bls x :=
  h.result (fun l hl => ((told_of hA).len l hl).1) (fun l hl c hc e => by have := letters_print hA l hl c hc; rw [e] at this; simp at this) (fun a ha => ((h.valid hA).arcs a ha).2.2.1)
theorem copies_result (hA : Valid10 A) (hM : ValidM M) (h : CopyM A.bls C) (hD : Composed M C D) {x : List UInt8} {t : ByteArray} : Result D x t ↔ Result M x t ∧ Cat A.bls (bl t) := by
  rw [hD.result hM (h.valid hA)]
  constructor
  · rintro ⟨u, q1, q2⟩
    obtain ⟨e, q3⟩ := (copy_result hA h).1 q2
    have e' : t = u := bl_inj e
    subst e'
    exact ⟨q1, q3⟩
  · rintro ⟨q1, q2⟩
    exact ⟨t, q1, (copy_result hA h).2 ⟨rfl, q2⟩⟩
/-- The places of the copy machine: few. -/
theorem copy_few (hA : Valid10 A) (h : CopyM A.bls C) (l : List UInt8) : FewPl (Reach C l) := by
  have hv := h.valid hA
  have hst := h.states
  have hn : ∀ l ∈ A.bls, 1 ≤ l.length := fun l hl => ((told_of hA).len l hl).1
  have h0 : ∀ l ∈ A.bls, ∀ c ∈ l, c ≠ 0 := fun l hl c hc e => by have := letters_print hA l hl c hc; rw [e] at this; simp at this
  have hle := copyStates_le A.bls 2 (fun l hl => ((told_of hA).len l hl).2)
  have h64 : A.bls.length ≤ 64 := by unfold Alph.bls; rw [List.length_map]; exact hA.1.2.2.1
  refine ⟨(List.range (copyStates 2 A.bls)).map (fun s : Nat => ⟨(s : Int), ⟨l.toArray⟩⟩), by rw [List.length_map, List.length_range]; omega, fun p hp => ?_⟩
  have hw := reach_walk l p hp
  rw [h.start] at hw
  have e := (copy_walk hn h0 (fun a ha => (h.mem a).1 ha) hw).1
  have hend : StateOk C.states p.st := by
    rcases UnionM.fewM.walk_end hw with e1 | ⟨a, ha, e1⟩
    · rw [e1, hst]; exact ⟨by omega, by have := copyStates_ge A.bls 2 hn; omega⟩
    · rw [e1]; exact (hv.arcs a ha).2.1
  rw [hst] at hend
  obtain ⟨st, tx⟩ := p
  obtain ⟨q1, q2⟩ := hend
  simp only at q1 q2 e
  refine List.mem_map.2 ⟨st.toNat, List.mem_range.2 (by omega), ?_⟩
  simp only [Plc.mk.injEq]
  exact ⟨by omega, bl_inj (by rw [e]; simp [bl])⟩
/-- The copy machine answers: the text itself, or nothing. -/
theorem copy_runs (hA : Valid10 A) (h : CopyM A.bls C) {x : ByteArray} (hx : x.size ≤ 400) {ts : List ByteArray} {e : Int} (hr : RunsOf C (bl x) ts e) : e = 0 ∧ ((Cat A.bls (bl x) ∧ ts = [x]) ∨ (¬ Cat A.bls (bl x) ∧ ts = [])) := by
  rcases runs_cases hr (h.valid hA) (by rw [bl_length]; exact hx) with ⟨_, c⟩ | ⟨_, ⟨_, i, _, hf⟩ | ⟨e0, _, s, m⟩⟩
  · exact absurd c (h.plain hA)
  · exact absurd (copy_few hA h _) hf
  · refine ⟨e0, ?_⟩
    have hm : ∀ t, t ∈ ts ↔ t = x ∧ Cat A.bls (bl x) := fun t => by
      rw [m, copy_result hA h]
      exact ⟨fun q => ⟨bl_inj q.1, q.2⟩, fun q => ⟨by rw [q.1], q.2⟩⟩
    by_cases hc : Cat A.bls (bl x)
    · refine .inl ⟨hc, s.ext ⟨by simp, by simp⟩ (fun t => ?_)⟩
      rw [hm, List.mem_singleton]
      exact ⟨fun q => q.1, fun q => ⟨q, hc⟩⟩
    · refine .inr ⟨hc, List.eq_nil_iff_forall_not_mem.2 (fun t ht => hc ((hm t).1 ht).2)⟩
/-- A machine's results and those of it composed with the copy. -/
theorem copies_runs (hA : Valid10 A) (hM : ValidM M) (h : CopyM A.bls C) (hD : Composed M C D) {x : List UInt8} {all kept : List ByteArray} (h1 : RunsOf M x all 0) (h2 : RunsOf D x kept 0) : (∀ t ∈ all, t ∈ kept ↔ Cat A.bls (bl t)) ∧ ∀ t ∈ kept, t ∈ all := by
  rcases h1 with ⟨_, _, e⟩ | ⟨_, ⟨_, _, e⟩ | ⟨_, ⟨_, _, e⟩ | ⟨_, _, s1, m1⟩⟩⟩
  · cases e
  · cases e
  · cases e
  rcases h2 with ⟨_, _, e⟩ | ⟨_, ⟨_, _, e⟩ | ⟨_, ⟨_, _, e⟩ | ⟨_, _, s2, m2⟩⟩⟩
  · cases e
  · cases e
  · cases e
  exact ⟨fun t ht => by rw [m2, copies_result hA hM h hD]; exact ⟨fun q => q.2, fun q => ⟨(m1 t).1 ht, q⟩⟩, fun t ht => (m1 t).2 ((copies_result hA hM h hD).1 ((m2 t).1 ht)).1⟩
end
end Go.Proofs.YtgaldlecnfekaaaGreatDoor

/- Plain words: what is known while a composition is made, row by row. No program in sight. -/
namespace Go.Proofs.YtgaldlecnfekaaaGreatDoor
open Go Classical

def bigK (M N : Mach) : Nat := M.arcs.length * (N.arcs.length + 1) + N.arcs.length
theorem bigK_le {M N : Mach} (hM : ValidM M) (hN : ValidM N) : bigK M N ≤ 400040000 := by
  have h1 := hM.arcsLen
  have h2 := hN.arcsLen
  have : M.arcs.length * (N.arcs.length + 1) ≤ 20000 * 20001 := Nat.mul_le_mul h1 (by omega)
  unfold bigK
  omega
/-- When i pairs were followed. -/
structure PInv (M N : Mach) (st : PSt) (i : Nat) : Prop where
  run : composeO M N = runO M.arcs N.arcs (4000 - i) i st
  pair : ∀ x ∈ st.ord, PairOk M N x
  nodup : st.ord.Nodup
  len : st.arcs.length ≤ i * bigK M N
  il : i ≤ st.ord.length
  i4 : i ≤ 4000
/-- In the midst of a pair's steps. -/
structure MInv (M N : Mach) (i : Nat) (st0 st : PSt) : Prop where
  pair : ∀ x ∈ st.ord, PairOk M N x
  nodup : st.ord.Nodup
  pre : st0.ord <+: st.ord
  len : st.arcs.length ≤ i * bigK M N + bigK M N
section
variable {M N : Mach} {st st' : PSt} {i : Nat}
theorem PInv.start (hM : ValidM M) (hN : ValidM N) : PInv M N ⟨[(M.start, N.start)], []⟩ 0 :=
  ⟨rfl, fun x hx => by obtain rfl := List.mem_singleton.1 hx; exact ⟨hM.start, hN.start⟩, by simp, Nat.zero_le _, Nat.zero_le _, Nat.zero_le _⟩
theorem ord_le (hM : ValidM M) (hN : ValidM N) {l : List (Int × Int)} (hn : l.Nodup) (h : ∀ x ∈ l, PairOk M N x) : l.length ≤ 16000000 := pairs_few (a := 4000) (b := 4000) hM.most hN.most hn h
theorem PInv.arcs_le (h : PInv M N st i) (hM : ValidM M) (hN : ValidM N) : st.arcs.length ≤ 1600160000000 := by
  have h1 := h.len
  have h2 : i * bigK M N ≤ 4000 * 400040000 := Nat.mul_le_mul h.i4 (bigK_le hM hN)
  omega
theorem MInv.arcs_le (h : MInv M N i st st') (hM : ValidM M) (hN : ValidM N) (hi : i ≤ 4000) : st'.arcs.length ≤ 1600560040000 := by
  have h1 := h.len
  have h2 : i * bigK M N ≤ 4000 * 400040000 := Nat.mul_le_mul hi (bigK_le hM hN)
  have h3 := bigK_le hM hN
  omega
theorem fold_nodup (i : Nat) : ∀ (l : List PStep) (st : PSt), st.ord.Nodup → (l.foldl (stepO i) st).ord.Nodup ∧ st.ord <+: (l.foldl (stepO i) st).ord
  | [], _, h => ⟨h, List.prefix_refl _⟩
  | s :: l, st, h => by
    obtain ⟨h1, h2⟩ := fold_nodup i l (stepO i st s) (nodup_addO h _)
    exact ⟨h1, (addO_prefix st.ord s.dst).trans h2⟩
/-- Some of a pair's steps are done. -/
theorem PInv.mid (h : PInv M N st i) (hM : ValidM M) (hN : ValidM N) (hi : i < st.ord.length) {pre : List PStep} (hp : ∀ s ∈ pre, s ∈ stepsL M.arcs N.arcs st.ord[i]) (h1 : pre.length ≤ (stepsL M.arcs N.arcs st.ord[i]).length) : MInv M N i st (pre.foldl (stepO i) st) := by
  have hx := h.pair _ (List.getElem_mem hi)
  obtain ⟨q1, q2, _⟩ := steps_small (M := M) (N := N) i pre st (fun s hs => (mem_stepsL.1 (hp s hs)).pair hM hN hx) h.pair
  obtain ⟨q3, q4⟩ := fold_nodup i pre st h.nodup
  refine ⟨q1, q3, q4, ?_⟩
  rw [q2]
  have h2 := steps_len M.arcs N.arcs st.ord[i]
  have h3 := h.len
  unfold bigK at h3 ⊢
  omega
theorem PInv.next (h : PInv M N st i) (hM : ValidM M) (hN : ValidM N) (hi : i < st.ord.length) (h4 : i < 4000) : PInv M N ((stepsL M.arcs N.arcs st.ord[i]).foldl (stepO i) st) (i + 1) := by
  have hm := h.mid hM hN hi (pre := stepsL M.arcs N.arcs st.ord[i]) (fun _ h => h) (Nat.le_refl _)
  have hr : rowO M.arcs N.arcs i st = (stepsL M.arcs N.arcs st.ord[i]).foldl (stepO i) st := by unfold rowO; rw [List.getElem?_eq_getElem hi]
  refine ⟨?_, hm.pair, hm.nodup, ?_, ?_, by omega⟩
  · rw [h.run, show 4000 - i = (4000 - (i + 1)) + 1 by omega, runO, if_pos hi, hr]
  · have := hm.len
    rw [Nat.add_mul]
    omega
  · have := hm.pre.length_le
    omega
theorem PInv.done (h : PInv M N st i) (hd : st.ord.length ≤ i ∨ i = 4000) : composeO M N = st := by
  rw [h.run]
  rcases hd with hd | rfl
  · cases h4 : 4000 - i with
    | zero => rfl
    | succ f => rw [runO, if_neg (by omega)]
  · rfl
/-- What is known at the end. -/
theorem PInv.out (h : PInv M N st i) (hM : ValidM M) (hN : ValidM N) (hd : st.ord.length ≤ i ∨ i = 4000) {S : List Arc} (hS : ArcsOf st.arcs S) : (4000 < st.ord.length ∨ 20000 < S.length → CompOut M N zeroM 2) ∧
    (¬ (4000 < st.ord.length ∨ 20000 < S.length) → ValidM ⟨(st.ord.length : Nat), 0, finO M N st.ord i, S⟩ ∧ CompOut M N (trimM ⟨(st.ord.length : Nat), 0, finO M N st.ord i, S⟩) 0) := by
  have e := h.done hd
  have hS' : ArcsOf (composeO M N).arcs S := by rw [e]; exact hS
  constructor
  · intro hb
    exact .inr ⟨hM, hN, S, hS', .inl ⟨by unfold Big; rw [e]; exact hb, rfl, rfl⟩⟩
  · intro hb
    have hb' : ¬ Big M N S := by unfold Big; rw [e]; exact hb
    have hi : i = st.ord.length := by have := h.il; omega
    have er : rawM M N S = ⟨(st.ord.length : Nat), 0, finO M N st.ord i, S⟩ := by unfold rawM; rw [e, hi]
    rw [← er]
    exact ⟨(raw_comp hM hN hS' hb').2, .inr ⟨hM, hN, S, hS', .inr ⟨hb', rfl, rfl⟩⟩⟩
theorem fin_step {M N : Mach} {l l' : List (Int × Int)} (h : l <+: l') {i : Nat} (hi : i < l.length) : finO M N l' (i + 1) = finO M N l i ++ (if l[i].1 ∈ M.final ∧ l[i].2 ∈ N.final then [(i : Int)] else []) := by
  rw [finO_succ, finO_prefix h i (by omega)]
  congr 1
  have : FinP M N l' i ↔ l[i].1 ∈ M.final ∧ l[i].2 ∈ N.final := by
    unfold FinP
    rw [get_prefix h (List.getElem?_eq_getElem hi)]
    constructor
    · rintro ⟨z, e, h1⟩; cases e; exact h1
    · intro h1; exact ⟨_, rfl, h1⟩
  by_cases hc : l[i].1 ∈ M.final ∧ l[i].2 ∈ N.final
  · rw [if_pos hc, if_pos (this.2 hc)]
  · rw [if_neg hc, if_neg (fun h => hc (this.1 h))]
end
end Go.Proofs.YtgaldlecnfekaaaGreatDoor

/- Plain words: the arcs of the copy machine in the order in which they are made. No program in sight. -/
namespace Go.Proofs.YtgaldlecnfekaaaGreatDoor
open Go Classical

def frmL (b j : Nat) : Int := if j = 0 then 0 else (b : Int) + ((j - 1 : Nat) : Int)
def cpyOne (l : List UInt8) (b j : Nat) : List Arc := (⟨frmL b j, byteL l j, byteL l j, letTo l b j⟩ : Arc) :: (if j = 0 then [⟨1, byteL l 0, byteL l 0, letTo l b 0⟩] else [])
def cpyL (l : List UInt8) (b j : Nat) : List Arc := (List.range j).flatMap (cpyOne l b)
theorem cpyL_succ (l : List UInt8) (b j : Nat) : cpyL l b (j + 1) = cpyL l b j ++ cpyOne l b j := by
  unfold cpyL
  rw [List.range_succ, List.flatMap_append]
  simp
theorem cpyL_len (l : List UInt8) (b j : Nat) : (cpyL l b j).length ≤ 2 * j := by
  induction j with
  | zero => simp [cpyL]
  | succ j ih =>
    rw [cpyL_succ, List.length_append]
    have : (cpyOne l b j).length ≤ 2 := by unfold cpyOne; split <;> simp
    omega
theorem mem_cpyL {l : List UInt8} {b : Nat} (h : 1 ≤ l.length) (a : Arc) : a ∈ cpyL l b l.length ↔ a ∈ letArcs l b := by
  unfold cpyL letArcs
  simp only [List.mem_flatMap, List.mem_range, cpyOne, List.mem_append, List.mem_cons, List.not_mem_nil, or_false, List.mem_map]
  constructor
  · rintro ⟨j, hj, rfl | ha⟩
    · rcases Nat.eq_zero_or_pos j with rfl | h0
      · left; left; simp [frmL]
      · right
        refine ⟨j - 1, by omega, ?_⟩
        unfold frmL
        rw [if_neg (by omega), show j - 1 + 1 = j by omega]
    · split at ha
      · left; right; simpa using ha
      · simp at ha
  · rintro ((rfl | rfl) | ⟨j, hj, rfl⟩)
    · exact ⟨0, by omega, .inl (by simp [frmL])⟩
    · exact ⟨0, by omega, .inr (by simp)⟩
    · refine ⟨j + 1, by omega, .inl ?_⟩
      unfold frmL
      rw [if_neg (by omega), show j + 1 - 1 = j by omega]
def cpyAll : Nat → List (List UInt8) → List Arc
  | _, [] => []
  | b, l :: r => cpyL l b l.length ++ cpyAll (b + l.length - 1) r
theorem mem_cpyAll (a : Arc) : ∀ (LS : List (List UInt8)) (b : Nat), (∀ l ∈ LS, 1 ≤ l.length) → (a ∈ cpyAll b LS ↔ a ∈ copyArcs b LS)
  | [], _, _ => by simp [cpyAll, copyArcs]
  | l :: r, b, h => by
    simp only [cpyAll, copyArcs, List.mem_append]
    rw [mem_cpyL (h l (List.mem_cons_self ..)), mem_cpyAll a r _ (fun z hz => h z (List.mem_cons_of_mem _ hz))]
theorem cpyAll_snoc (l : List UInt8) : ∀ (LS : List (List UInt8)) (b : Nat), cpyAll b (LS ++ [l]) = cpyAll b LS ++ cpyL l (copyStates b LS) l.length
  | [], b => by simp [cpyAll, copyStates]
  | x :: r, b => by
    simp only [List.cons_append, cpyAll, copyStates]
    rw [cpyAll_snoc l r, List.append_assoc]
theorem copyStates_snoc (l : List UInt8) : ∀ (LS : List (List UInt8)) (b : Nat), copyStates b (LS ++ [l]) = copyStates b LS + l.length - 1
  | [], b => by simp [copyStates]
  | x :: r, b => by
    simp only [List.cons_append, copyStates]
    exact copyStates_snoc l r _
theorem copy_final {LS : List (List UInt8)} {S : List Arc} (hn : ∀ l ∈ LS, 1 ≤ l.length) (hS : ArcsOf (cpyAll 2 LS) S) : CopyM LS ⟨(copyStates 2 LS : Nat), 0, [1], S⟩ :=
  ⟨rfl, rfl, rfl, hS.1, fun a => by rw [hS.2, mem_cpyAll a LS 2 hn]⟩
/-- What compose.Copy's two loops know: k letters are done. -/
def cpS (LS : List (List UInt8)) (k : Nat) : Nat := copyStates 2 (LS.take k)
def cpA (LS : List (List UInt8)) (k : Nat) : List Arc := cpyAll 2 (LS.take k)
theorem cpS_succ {LS : List (List UInt8)} {k : Nat} (hk : k < LS.length) : cpS LS (k + 1) = cpS LS k + LS[k].length - 1 := by
  unfold cpS
  rw [List.take_add_one, List.getElem?_eq_getElem hk]
  exact copyStates_snoc _ _ _
theorem cpA_succ {LS : List (List UInt8)} {k : Nat} (hk : k < LS.length) : cpA LS (k + 1) = cpA LS k ++ cpyL LS[k] (cpS LS k) LS[k].length := by
  unfold cpA cpS
  rw [List.take_add_one, List.getElem?_eq_getElem hk]
  exact cpyAll_snoc _ _ _
theorem cpA_len {LS : List (List UInt8)} (h3 : ∀ l ∈ LS, l.length ≤ 3) : ∀ k, k ≤ LS.length → (cpA LS k).length ≤ 6 * k
  | 0, _ => by simp [cpA, cpyAll]
  | k + 1, hk => by
    rw [cpA_succ (by omega), List.length_append]
    have h1 := cpA_len h3 k (by omega)
    have h2 := cpyL_len (LS[k]'(by omega)) (cpS LS k) (LS[k]'(by omega)).length
    have h4 := h3 _ (List.getElem_mem (show k < LS.length by omega))
    omega
/-- The numbers of the states while a letter's bytes are followed. -/
theorem letTo_mid {l : List UInt8} {b j : Nat} (h : j + 1 < l.length) : letTo l b j = ((b + j : Nat) : Int) := by
  unfold letTo
  rw [if_neg (by omega)]
  omega
theorem letTo_last {l : List UInt8} {b j : Nat} (h : j + 1 = l.length) : letTo l b j = 1 := by unfold letTo; rw [if_pos h]
theorem frmL_succ {l : List UInt8} {b j : Nat} (h : j + 1 < l.length) : frmL b (j + 1) = letTo l b j := by
  rw [letTo_mid h]
  unfold frmL
  rw [if_neg (by omega), show j + 1 - 1 = j by omega]
  omega
end Go.Proofs.YtgaldlecnfekaaaGreatDoor
