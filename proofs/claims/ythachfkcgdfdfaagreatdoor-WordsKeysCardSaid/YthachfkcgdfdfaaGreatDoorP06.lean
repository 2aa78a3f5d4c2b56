/- GP · GH · T0 -/
import Derived.Test.YthachfkcgdfdfaaGreatDoorP03
import Derived.Sort.KeysCollected
/- GP · RL -/
/- GP · P4 -/
/- P1 · P2 · P3 -/
/- Plain words on machines: when one is valid, the arcs of a state that read a symbol, places, what is reached. No program in sight. -/
namespace Go.Proofs.YthachfkcgdfdfaaGreatDoor
open Go Classical

/-- A state of a machine of n states; a symbol of an arc. -/
def StateOk (n z : Int) : Prop := 0 ≤ z ∧ z < n
def SymOk (z : Int) : Prop := z = 0 ∨ (33 ≤ z ∧ z ≤ 126)

structure ValidM (M : Mach) : Prop where
 one : 1 ≤ M.states
 most : M.states ≤ 4000
 start : StateOk M.states M.start
 arcsLen : M.arcs.length ≤ 20000
 final : ∀ s ∈ M.final, StateOk M.states s
 inc : M.final.Pairwise (· < ·)
 arcs : ∀ a ∈ M.arcs, StateOk M.states a.frm ∧ StateOk M.states a.to ∧ SymOk a.inp ∧ SymOk a.out
 arcsInc : Increasing M.arcs

/-- The arcs of a state that read a symbol. -/
def runA (l : List Arc) (s c : Int) : List Arc := l.filter (fun a => decide (a.frm = s ∧ a.inp = c))
/-- What the arcs are searched for. -/
def tgt (s c : Int) : Arc := ⟨s, c, -1, 0⟩

theorem mem_runA {l : List Arc} {s c : Int} {a : Arc} : a ∈ runA l s c ↔ a ∈ l ∧ a.frm = s ∧ a.inp = c := by
 unfold runA; rw [List.mem_filter]; simp
theorem runA_nil (s c : Int) : runA [] s c = [] := rfl
theorem runA_drop {l : List Arc} {s c : Int} (k : Nat) (h : ∀ t, t < k → ∀ a, l[t]? = some a → a.lt (tgt s c)) (hv : ∀ a ∈ l, 0 ≤ a.out) : runA l s c = runA (l.drop k) s c := by
 conv => lhs; rw [← List.take_append_drop k l]
 unfold runA
 rw [List.filter_append]
 have : (l.take k).filter (fun a => decide (a.frm = s ∧ a.inp = c)) = [] := by
  rw [List.filter_eq_nil_iff]
  intro a ha
  obtain ⟨t, ht⟩ := List.mem_iff_getElem?.1 ha
  rw [List.getElem?_take] at ht
  split at ht
  ·have h1 := h t (by assumption) a ht
   have h2 := hv a (List.mem_of_getElem? ht)
   unfold Arc.lt tgt at h1
   simp at h1 ⊢
   omega
  ·cases ht
 rw [this, List.nil_append]
theorem runA_stop {l : List Arc} {s c : Int} (hinc : Increasing l) (k : Nat) (a : Arc) (hk : l[k]? = some a) (hge : ¬ a.lt (tgt s c)) (hv : ∀ a ∈ l, 0 ≤ a.out) (hne : ¬ (a.frm = s ∧ a.inp = c)) : runA (l.drop k) s c = [] := by
 unfold runA
 rw [List.filter_eq_nil_iff]
 intro b hb
 obtain ⟨t, ht⟩ := List.mem_iff_getElem?.1 hb
 rw [List.getElem?_drop] at ht
 have hva := hv a (List.mem_of_getElem? hk)
 have hab : a = b ∨ a.lt b := by
  rcases Nat.eq_zero_or_pos t with rfl | h0
  ·rw [Nat.add_zero, hk] at ht; exact .inl (Option.some.inj ht)
  ·obtain ⟨h1, e1⟩ := List.getElem?_eq_some_iff.1 hk
   obtain ⟨h2, e2⟩ := List.getElem?_eq_some_iff.1 ht
   have := List.pairwise_iff_getElem.1 hinc k (k + t) h1 h2 (by omega)
   rw [e1, e2] at this; exact .inr this
 simp only [decide_eq_true_eq]
 unfold Arc.lt tgt at *
 rcases hab with rfl | hab
 ·exact hne
 ·simp at hge; omega
theorem runA_next {l : List Arc} {s c : Int} (k : Nat) (a : Arc) (hk : l[k]? = some a) (he : a.frm = s ∧ a.inp = c) : runA (l.drop k) s c = a :: runA (l.drop (k + 1)) s c := by
 obtain ⟨h1, e1⟩ := List.getElem?_eq_some_iff.1 hk
 rw [List.drop_eq_getElem_cons h1, e1]
 unfold runA
 rw [List.filter_cons_of_pos (by simpa using he)]

/-- The text after a symbol. -/
def afterB (t : ByteArray) (c : Int) : ByteArray := if c = 0 then t else t ++ ⟨#[c.toNat.toUInt8]⟩
theorem afterB_size (t : ByteArray) (c : Int) : (afterB t c).size ≤ t.size + 1 := by
 unfold afterB
 split
 ·omega
 ·rw [ByteArray.size_append]; exact Nat.le_refl _

/-- An arc that reads c leads from p to q. -/
def Goes (M : Mach) (c : Int) (p q : Plc) : Prop := ∃ a ∈ M.arcs, a.frm = p.st ∧ a.inp = c ∧ q = ⟨a.to, afterB p.tx a.out⟩
theorem goes_iff {M : Mach} {c : Int} {p q : Plc} : Goes M c p q ↔ ∃ a ∈ runA M.arcs p.st c, q = ⟨a.to, afterB p.tx a.out⟩ := by
 unfold Goes
 simp only [mem_runA, and_assoc]
/-- What is reached from places by arcs that read nothing. -/
inductive Cl (M : Mach) (S : Plc → Prop) : Plc → Prop
 | base {p : Plc} : S p → Cl M S p
 | more {p q : Plc} : Cl M S p → Goes M 0 p q → Cl M S q
theorem Cl.imp {M : Mach} {S T : Plc → Prop} (h : ∀ p, S p → T p) {p : Plc} (hp : Cl M S p) : Cl M T p := by
 induction hp with
 | base h0 => exact .base (h _ h0)
 | more _ hg ih => exact .more ih hg
/-- From where a step by a symbol sets out. -/
def Setout (M : Mach) (S : Plc → Prop) (c : Int) (p : Plc) : Prop := if c = 0 then S p else ∃ q, S q ∧ Goes M c q p
/-- The places behind a step. -/
def StepM (M : Mach) (S : Plc → Prop) (c : Int) : Plc → Prop := Cl M (Setout M S c)
/-- The places behind the first bytes of a text. -/
def Reach (M : Mach) : List UInt8 → Plc → Prop
 | l => l.foldl (fun S b => if b = 0 then fun _ => False else StepM M S (b.toNat : Int)) (Cl M (fun p => p = ⟨M.start, ⟨#[]⟩⟩))
theorem Reach_nil (M : Mach) : Reach M [] = Cl M (fun p => p = ⟨M.start, ⟨#[]⟩⟩) := rfl
theorem Reach_snoc (M : Mach) (l : List UInt8) (b : UInt8) (hb : b ≠ 0) : Reach M (l ++ [b]) = StepM M (Reach M l) (b.toNat : Int) := by
 unfold Reach; rw [List.foldl_append]; simp [hb]
/-- At most 2000 places. -/
def FewPl (S : Plc → Prop) : Prop := ∃ ks : List Plc, ks.length ≤ 2000 ∧ ∀ p, S p → p ∈ ks
/-- A text is a result. -/
def Result (M : Mach) (x : List UInt8) (t : ByteArray) : Prop := 0 ∉ x ∧ ∃ s ∈ M.final, Reach M x ⟨s, t⟩
end Go.Proofs.YthachfkcgdfdfaaGreatDoor

/- Plain words on circles of arcs that read nothing, and on looking for them by colours. No program in sight. -/
namespace Go.Proofs.YthachfkcgdfdfaaGreatDoor
open Go Classical

/-- An arc that reads nothing leads from a state to another. -/
def Ed (M : Mach) (s t : Int) : Prop := ∃ a ∈ runA M.arcs s 0, a.to = t
inductive Way (R : Int → Int → Prop) : Int → Int → Prop
 | one {a b : Int} : R a b → Way R a b
 | more {a b c : Int} : Way R a b → R b c → Way R a c
def WayR (R : Int → Int → Prop) (a b : Int) : Prop := a = b ∨ Way R a b
/-- A circle of arcs that read nothing. -/
def Circle (M : Mach) : Prop := ∃ s, Way (Ed M) s s

/-- What is done leads only to what is done, and to no circle. -/
structure DoneOk (M : Mach) (sn : List Int) : Prop where
 next : ∀ u t : Nat, sn[u]? = some 2 → Ed M u t → sn[t]? = some 2
 none : ∀ u : Nat, sn[u]? = some 2 → ¬ Way (Ed M) u u
structure Grew (sn sn' : List Int) : Prop where
 len : sn'.length = sn.length
 opens : ∀ u : Nat, sn'[u]? = some 1 ↔ sn[u]? = some 1
 done : ∀ u : Nat, sn[u]? = some 2 → sn'[u]? = some 2
 white : ∀ u : Nat, sn'[u]? = some 0 → sn[u]? = some 0
theorem Grew.refl (sn : List Int) : Grew sn sn := ⟨rfl, fun _ => Iff.rfl, fun _ h => h, fun _ h => h⟩
theorem Grew.trans {a b c : List Int} (h : Grew a b) (k : Grew b c) : Grew a c :=
 ⟨k.len.trans h.len, fun u => (k.opens u).trans (h.opens u), fun u hu => k.done u (h.done u hu), fun u hu => h.white u (k.white u hu)⟩
theorem count_le_of : ∀ {a b : List Int}, b.length = a.length → (∀ u : Nat, b[u]? = some 0 → a[u]? = some 0) → b.count 0 ≤ a.count 0
 | [], [], _, _ => Nat.le_refl _
 | x :: a, y :: b, hl, h => by
  have ih := count_le_of (a := a) (b := b) (by simpa using hl) (fun u hu => by have := h (u + 1) (by simpa using hu); simpa using this)
  have h0 := h 0
  simp at h0
  rw [List.count_cons, List.count_cons]
  by_cases hy : y = 0
  ·rw [h0 hy, hy]; simp; exact ih
  ·simp [hy]; omega
 | [], _ :: _, hl, _ => by simp at hl
 | _ :: _, [], hl, _ => by simp at hl
theorem Grew.count {a b : List Int} (h : Grew a b) : b.count 0 ≤ a.count 0 := count_le_of h.len h.white

/-- All colours are 0, 1 or 2. -/
def Cols (sn : List Int) : Prop := ∀ c ∈ sn, c = 0 ∨ c = 1 ∨ c = 2

structure VInv (M : Mach) (sn0 : List Int) (s : Nat) (pre : List Arc) (sn : List Int) : Prop where
 grew : Grew (sn0.set s 1) sn
 ok : DoneOk M sn
 cols : Cols sn
 got : ∀ a ∈ pre, sn[a.to.toNat]? = some 2
structure VRes (M : Mach) (sn : List Int) (s : Nat) (sn' : List Int) : Prop where
 grew : Grew sn sn'
 ok : DoneOk M sn'
 cols : Cols sn'
 self : sn'[s]? = some 2

theorem get_set_iff {sn : List Int} {s u : Nat} {c d : Int} (hs : s < sn.length) : (sn.set s c)[u]? = some d ↔ (u = s ∧ c = d) ∨ (u ≠ s ∧ sn[u]? = some d) := by
 rw [List.getElem?_set]
 by_cases h : s = u
 ·subst h; simp [hs]
 ·rw [if_neg h]
  constructor
  ·intro hu; exact .inr ⟨fun e => h e.symm, hu⟩
  ·rintro (⟨rfl, _⟩ | ⟨_, hu⟩)
   ·exact absurd rfl h
   ·exact hu
theorem Cols.set {sn : List Int} (h : Cols sn) (s : Nat) {c : Int} (hc : c = 0 ∨ c = 1 ∨ c = 2) : Cols (sn.set s c) := by
 intro d hd
 rcases List.mem_or_eq_of_mem_set hd with h1 | rfl
 ·exact h d h1
 ·exact hc

section
variable {M : Mach} {sn0 sn : List Int} {s : Nat} {pre : List Arc}
theorem VInv.start (h0 : sn0[s]? = some 0) (hok : DoneOk M sn0) (hc : Cols sn0) : VInv M sn0 s [] (sn0.set s 1) := by
 have hs : s < sn0.length := (List.getElem?_eq_some_iff.1 h0).1
 refine ⟨Grew.refl _, ⟨fun u t hu he => ?_, fun u hu => ?_⟩, hc.set s (.inr (.inl rfl)), by simp⟩
 ·rw [get_set_iff hs] at hu ⊢
  rcases hu with ⟨_, h⟩ | ⟨_, hu⟩
  ·cases h
  ·have := hok.next u t hu he
   refine .inr ⟨fun e => ?_, this⟩
   rw [e, h0] at this; cases this
 ·rw [get_set_iff hs] at hu
  rcases hu with ⟨_, h⟩ | ⟨_, hu⟩
  ·cases h
  ·exact hok.none u hu
theorem VInv.old (h : VInv M sn0 s pre sn) {x : Arc} (hx : sn[x.to.toNat]? = some 2) : VInv M sn0 s (pre ++ [x]) sn :=
 ⟨h.grew, h.ok, h.cols, fun a ha => by
  rcases List.mem_append.1 ha with h1 | h1
  ·exact h.got a h1
  ·obtain rfl : a = x := by simpa using h1
   exact hx⟩
theorem VInv.new (h : VInv M sn0 s pre sn) {x : Arc} {sn' : List Int} (hr : VRes M sn x.to.toNat sn') : VInv M sn0 s (pre ++ [x]) sn' :=
 ⟨h.grew.trans hr.grew, hr.ok, hr.cols, fun a ha => by
  rcases List.mem_append.1 ha with h1 | h1
  ·exact hr.grew.done _ (h.got a h1)
  ·obtain rfl : a = x := by simpa using h1
   exact hr.self⟩
theorem VInv.self1 (h : VInv M sn0 s pre sn) (hs : s < sn0.length) : sn[s]? = some 1 := by
 rw [h.grew.opens s, get_set_iff hs]; exact .inl ⟨rfl, rfl⟩
theorem ways_open (hp : ∀ u : Nat, sn0[u]? = some 1 → WayR (Ed M) u s) (hs : s < sn0.length) (h : VInv M sn0 s pre sn) {x : Arc} (hx : x ∈ runA M.arcs s 0) : ∀ u : Nat, sn[u]? = some 1 → Way (Ed M) u x.to := by
 intro u hu
 rw [h.grew.opens u, get_set_iff hs] at hu
 have he : Ed M s x.to := ⟨x, hx, rfl⟩
 rcases hu with ⟨rfl, _⟩ | ⟨_, hu⟩
 ·exact .one he
 ·rcases hp u hu with e | hw
  ·rw [e]; exact .one he
  ·exact hw.more he
theorem VInv.circle (h : VInv M sn0 s pre sn) (hp : ∀ u : Nat, sn0[u]? = some 1 → WayR (Ed M) u s) (hs : s < sn0.length) {x : Arc} (hx : x ∈ runA M.arcs s 0) (h0 : 0 ≤ x.to) (h1 : sn[x.to.toNat]? = some 1) : Circle M := by
 have := ways_open hp hs h hx _ h1
 rw [Int.toNat_of_nonneg h0] at this
 exact ⟨_, this⟩
theorem way_done (hok : DoneOk M sn) (hto : ∀ a ∈ M.arcs, 0 ≤ a.to) {u : Nat} (hu : sn[u]? = some 2) {t : Int} (h : Way (Ed M) u t) : 0 ≤ t ∧ sn[t.toNat]? = some 2 := by
 induction h with
 | @one b h1 =>
  obtain ⟨x, hx, rfl⟩ := h1
  have h0 := hto x (mem_runA.1 hx).1
  refine ⟨h0, hok.next u _ hu ⟨x, hx, ?_⟩⟩
  rw [Int.toNat_of_nonneg h0]
 | @more b c _ h1 ih =>
  obtain ⟨hb0, hb⟩ := ih
  obtain ⟨x, hx, rfl⟩ := h1
  have h0 := hto x (mem_runA.1 hx).1
  refine ⟨h0, hok.next b.toNat _ hb ⟨x, ?_, ?_⟩⟩
  ·rw [Int.toNat_of_nonneg hb0]; exact hx
  ·rw [Int.toNat_of_nonneg h0]
theorem way_first {R : Int → Int → Prop} {a b : Int} (h : Way R a b) : ∃ c, R a c ∧ (c = b ∨ Way R c b) := by
 induction h with
 | one h1 => exact ⟨_, h1, .inl rfl⟩
 | more _ h1 ih =>
  obtain ⟨c, hc, hb⟩ := ih
  refine ⟨c, hc, .inr ?_⟩
  rcases hb with rfl | hb
  ·exact .one h1
  ·exact hb.more h1
theorem VInv.finish (h : VInv M sn0 s (runA M.arcs s 0) sn) (h0 : sn0[s]? = some 0) (hto : ∀ a ∈ M.arcs, 0 ≤ a.to) : VRes M sn0 s (sn.set s 2) := by
 have hs0 : s < sn0.length := (List.getElem?_eq_some_iff.1 h0).1
 have hlen : sn.length = sn0.length := by rw [h.grew.len]; simp
 have hs : s < sn.length := by omega
 have h1 := h.self1 hs0
 have hgot : ∀ t : Nat, Ed M s t → sn[t]? = some 2 := by
  rintro t ⟨a, ha, e⟩
  have := h.got a ha
  rw [e] at this
  simpa using this
 refine ⟨⟨by simpa using hlen, fun u => ?_, fun u hu => ?_, fun u hu => ?_⟩, ⟨fun u t hu he => ?_, fun u hu hw => ?_⟩, h.cols.set s (.inr (.inr rfl)), ?_⟩
 ·rw [get_set_iff hs]
  constructor
  ·rintro (⟨_, e⟩ | ⟨hne, hu⟩)
   ·cases e
   ·rw [h.grew.opens u, get_set_iff hs0] at hu
    rcases hu with ⟨e, _⟩ | ⟨_, hu⟩
    ·exact absurd e hne
    ·exact hu
  ·intro hu
   have hne : u ≠ s := fun e => by rw [e, h0] at hu; cases hu
   exact .inr ⟨hne, by rw [h.grew.opens u, get_set_iff hs0]; exact .inr ⟨hne, hu⟩⟩
 ·rw [get_set_iff hs]
  have hne : u ≠ s := fun e => by rw [e, h0] at hu; cases hu
  exact .inr ⟨hne, h.grew.done u (by rw [get_set_iff hs0]; exact .inr ⟨hne, hu⟩)⟩
 ·rw [get_set_iff hs] at hu
  rcases hu with ⟨_, e⟩ | ⟨hne, hu⟩
  ·cases e
  ·have := h.grew.white u hu
   rw [get_set_iff hs0] at this
   rcases this with ⟨e, _⟩ | ⟨_, hu⟩
   ·exact absurd e hne
   ·exact hu
 ·rw [get_set_iff hs] at hu ⊢
  have ht : sn[t]? = some 2 := by
   rcases hu with ⟨rfl, _⟩ | ⟨_, hu⟩
   ·exact hgot t he
   ·exact h.ok.next u t hu he
  exact .inr ⟨(fun e => by rw [e, h1] at ht; cases ht), ht⟩
 ·rw [get_set_iff hs] at hu
  rcases hu with ⟨rfl, _⟩ | ⟨_, hu⟩
  ·obtain ⟨c, hc, hcs⟩ := way_first hw
   have hc2 := hc
   obtain ⟨a, ha, rfl⟩ := hc
   have ha0 := hto a (mem_runA.1 ha).1
   have h2 : sn[a.to.toNat]? = some 2 := h.got a ha
   rcases hcs with e | hw2
   ·rw [e, Int.toNat_natCast, h1] at h2; cases h2
   ·have := way_done (u := a.to.toNat) h.ok hto h2 (t := u) (by rw [Int.toNat_of_nonneg ha0]; exact hw2)
    rw [Int.toNat_natCast, h1] at this
    cases this.2
  ·exact h.ok.none u hu hw
 ·rw [get_set_iff hs]; exact .inl ⟨rfl, rfl⟩
/-- All states done: no circle. -/
theorem no_circle (hok : DoneOk M sn) (hfrm : ∀ a ∈ M.arcs, 0 ≤ a.frm ∧ a.frm < M.states) (hall : ∀ u : Nat, (u : Int) < M.states → sn[u]? = some 2) : ¬ Circle M := by
 rintro ⟨s, hs⟩
 obtain ⟨c, ⟨a, ha, _⟩, _⟩ := way_first hs
 obtain ⟨h1, h2, _⟩ := mem_runA.1 ha
 have := hfrm a h1
 rw [h2] at this
 have h3 := hall s.toNat (by omega)
 refine hok.none s.toNat h3 ?_
 rw [Int.toNat_of_nonneg this.1]; exact hs
end
theorem count_set {sn : List Int} {s : Nat} (h0 : sn[s]? = some 0) : (sn.set s 1).count 0 < sn.count 0 := by
 induction sn generalizing s with
 | nil => simp at h0
 | cons x sn ih =>
  cases s with
  | zero => simp at h0; subst h0; simp
  | succ s =>
   have := ih (s := s) (by simpa using h0)
   simp only [List.set_cons_succ, List.count_cons]
   omega
end Go.Proofs.YthachfkcgdfdfaaGreatDoor

/- Plain words on following arcs from places, breadth first. No program in sight. -/
namespace Go.Proofs.YthachfkcgdfdfaaGreatDoor
open Go Classical

noncomputable def addP (ks : List Plc) (p : Plc) : List Plc := if p ∈ ks then ks else ks ++ [p]
noncomputable def newP (ks : List Plc) (p : Plc) : List Plc := if p ∈ ks then [] else [p]
/-- Where an arc leads from a place. -/
def stepA (p : Plc) (a : Arc) : Plc := ⟨a.to, afterB p.tx a.out⟩

theorem mem_addP {ks : List Plc} {p x : Plc} : x ∈ addP ks p ↔ x ∈ ks ∨ x = p := by
 unfold addP; split
 ·constructor
  ·exact .inl
  ·rintro (h | rfl); exact h; assumption
 ·simp
theorem addP_len (ks : List Plc) (p : Plc) : (addP ks p).length ≤ ks.length + 1 := by
 unfold addP; split <;> simp
theorem addP_pre (ks : List Plc) (p : Plc) : ks <+: addP ks p := by
 unfold addP; split
 ·exact List.prefix_refl _
 ·exact List.prefix_append _ _
theorem addP_get {ks : List Plc} {p q : Plc} {j : Nat} (h : ks[j]? = some q) : (addP ks p)[j]? = some q := by
 obtain ⟨r, hr⟩ := addP_pre ks p
 rw [← hr, List.getElem?_append_left (List.getElem?_eq_some_iff.1 h).1]; exact h
theorem addP_get_lt {ks : List Plc} {p q : Plc} {j : Nat} (hj : j < ks.length) (h : (addP ks p)[j]? = some q) : ks[j]? = some q := by
 obtain ⟨r, hr⟩ := addP_pre ks p
 rw [← hr, List.getElem?_append_left hj] at h; exact h
theorem addP_eq (ks : List Plc) (p : Plc) : ks ++ newP ks p = addP ks p := by
 unfold addP newP; split <;> simp
theorem drop_addP {ks : List Plc} {p : Plc} {i : Nat} (hi : i ≤ ks.length) : ks.drop i ++ newP ks p = (addP ks p).drop i := by
 rw [← addP_eq, List.drop_append_of_le_length hi]
theorem runA_len (l : List Arc) (s c : Int) : (runA l s c).length ≤ l.length := List.length_filter_le _ _

/-- The places from which a closure sets out. -/
structure Ph1 (M : Mach) (S : Plc → Prop) (L : Nat) (ks : List Plc) : Prop where
 snd : ∀ p ∈ ks, S p
 cmp : ∀ p, S p → p ∈ ks
 size : ∀ p ∈ ks, p.tx.size ≤ L + 1
 st : ∀ p ∈ ks, StateOk M.states p.st
 len : ks.length ≤ 40000000
/-- i places have been taken from the queue. -/
structure BInv (M : Mach) (S : Plc → Prop) (L i : Nat) (ks : List Plc) : Prop where
 il : i ≤ ks.length
 snd : ∀ p ∈ ks, Cl M S p
 cmp : ∀ p, S p → p ∈ ks
 got : ∀ (j : Nat) p, j < i → ks[j]? = some p → ∀ a ∈ runA M.arcs p.st 0, stepA p a ∈ ks
 size : ∀ p ∈ ks, p.tx.size ≤ L + 1 + i
 st : ∀ p ∈ ks, StateOk M.states p.st
 len : ks.length ≤ 40000000 + i * 20000
/-- The arcs pre of the i-th place have been followed. -/
structure CInv (M : Mach) (S : Plc → Prop) (L i : Nat) (p : Plc) (pre : List Arc) (ks : List Plc) : Prop where
 self : ks[i]? = some p
 snd : ∀ p ∈ ks, Cl M S p
 cmp : ∀ p, S p → p ∈ ks
 got : ∀ (j : Nat) p, j < i → ks[j]? = some p → ∀ a ∈ runA M.arcs p.st 0, stepA p a ∈ ks
 size : ∀ p ∈ ks, p.tx.size ≤ L + 1 + (i + 1)
 psize : p.tx.size ≤ L + 1 + i
 st : ∀ p ∈ ks, StateOk M.states p.st
 len : ks.length ≤ 40000000 + i * 20000 + pre.length
 done : ∀ a ∈ pre, stepA p a ∈ ks
section
variable {M : Mach} {S : Plc → Prop} {L i : Nat} {p : Plc} {pre : List Arc} {ks : List Plc}
theorem Ph1.start (h : Ph1 M S L ks) : BInv M S L 0 ks :=
 ⟨Nat.zero_le _, fun p hp => .base (h.snd p hp), h.cmp, fun j p hj => absurd hj (Nat.not_lt_zero _), h.size, h.st, by have := h.len; omega⟩
theorem BInv.open (h : BInv M S L i ks) (hp : ks[i]? = some p) : CInv M S L i p [] ks :=
 ⟨hp, h.snd, h.cmp, h.got, fun q hq => by have := h.size q hq; omega, h.size p (List.mem_of_getElem? hp), h.st, by have := h.len; simpa using this, by simp⟩
theorem CInv.step (h : CInv M S L i p pre ks) {a : Arc} (ha : a ∈ runA M.arcs p.st 0) (hto : StateOk M.states a.to) : CInv M S L i p (pre ++ [a]) (addP ks (stepA p a)) := by
 have hil : i < ks.length := (List.getElem?_eq_some_iff.1 h.self).1
 refine ⟨addP_get h.self, fun q hq => ?_, fun q hq => mem_addP.2 (.inl (h.cmp q hq)), fun j q hj hq b hb => mem_addP.2 (.inl (h.got j q hj (addP_get_lt (by omega) hq) b hb)), fun q hq => ?_, h.psize, fun q hq => ?_, ?_, fun b hb => ?_⟩
 ·rcases mem_addP.1 hq with hq | rfl
  ·exact h.snd q hq
  ·exact .more (h.snd p (List.mem_of_getElem? h.self)) (goes_iff.2 ⟨a, ha, rfl⟩)
 ·rcases mem_addP.1 hq with hq | rfl
  ·exact h.size q hq
  ·have h1 := afterB_size p.tx a.out
   have h2 := h.psize
   show (afterB p.tx a.out).size ≤ _
   omega
 ·rcases mem_addP.1 hq with hq | rfl
  ·exact h.st q hq
  ·exact hto
 ·have := addP_len ks (stepA p a)
  have := h.len
  simp; omega
 ·rcases List.mem_append.1 hb with hb | hb
  ·exact mem_addP.2 (.inl (h.done b hb))
  ·obtain rfl : b = a := by simpa using hb
   exact mem_addP.2 (.inr rfl)
theorem CInv.close (h : CInv M S L i p (runA M.arcs p.st 0) ks) (hl : M.arcs.length ≤ 20000) : BInv M S L (i + 1) ks := by
 have hil : i < ks.length := (List.getElem?_eq_some_iff.1 h.self).1
 refine ⟨hil, h.snd, h.cmp, fun j q hj hq => ?_, h.size, h.st, ?_⟩
 ·rcases Nat.lt_succ_iff_lt_or_eq.1 hj with hj | rfl
  ·exact h.got j q hj hq
  ·rw [h.self] at hq; cases hq; exact h.done
 ·have h1 := h.len
  have h2 := runA_len M.arcs p.st 0
  omega
theorem BInv.finish (h : BInv M S L ks.length ks) {q : Plc} (hq : Cl M S q) : q ∈ ks := by
 induction hq with
 | base h0 => exact h.cmp _ h0
 | more _ hg ih =>
  obtain ⟨a, ha, rfl⟩ := goes_iff.1 hg
  obtain ⟨j, hj⟩ := List.mem_iff_getElem?.1 ih
  exact h.got j _ (List.getElem?_eq_some_iff.1 hj).1 hj a ha
end

/-- Places are reached as they are. -/
structure A0 (fs rest ks : List Plc) : Prop where
 snd : ∀ p ∈ ks, p ∈ fs
 cmp : ∀ p ∈ fs, p ∈ rest ∨ p ∈ ks
 sub : ∀ p ∈ rest, p ∈ fs
 len : ks.length + rest.length ≤ fs.length
theorem A0.start (fs : List Plc) : A0 fs fs [] := ⟨by simp, fun p hp => .inl hp, fun _ h => h, by simp⟩
theorem A0.step {fs A B ks : List Plc} {p : Plc} (h : A0 fs (A ++ p :: B) ks) : A0 fs (A ++ B) (addP ks p) := by
 refine ⟨fun q hq => ?_, fun q hq => ?_, fun q hq => h.sub q ?_, ?_⟩
 ·rcases mem_addP.1 hq with hq | rfl
  ·exact h.snd q hq
  ·exact h.sub q (by simp)
 ·rcases h.cmp q hq with h1 | h1
  ·simp at h1
   rcases h1 with h1 | rfl | h1
   ·exact .inl (by simp [h1])
   ·exact .inr (mem_addP.2 (.inr rfl))
   ·exact .inl (by simp [h1])
  ·exact .inr (mem_addP.2 (.inl h1))
 ·simp at hq ⊢; rcases hq with hq | hq <;> simp [hq]
 ·have h1 := h.len
  have h2 := addP_len ks p
  simp at h1 ⊢; omega
theorem A0.finish {M : Mach} {L : Nat} {fs ks : List Plc} (h : A0 fs [] ks) (hs : ∀ p ∈ fs, p.tx.size ≤ L) (hst : ∀ p ∈ fs, StateOk M.states p.st) (hl : fs.length ≤ 2000) : Ph1 M (Setout M (· ∈ fs) 0) L ks := by
 refine ⟨fun p hp => ?_, fun p hp => ?_, fun p hp => by have := hs p (h.snd p hp); omega, fun p hp => hst p (h.snd p hp), by have := h.len; simp at this; omega⟩
 ·unfold Setout; rw [if_pos rfl]; exact h.snd p hp
 ·unfold Setout at hp; rw [if_pos rfl] at hp
  rcases h.cmp p hp with h1 | h1
  ·cases h1
  ·exact h1

/-- Places are reached by a symbol. -/
structure A1 (M : Mach) (c : Int) (L : Nat) (fs rest ks : List Plc) : Prop where
 snd : ∀ q ∈ ks, ∃ p ∈ fs, Goes M c p q
 cmp : ∀ p ∈ fs, p ∈ rest ∨ ∀ a ∈ runA M.arcs p.st c, stepA p a ∈ ks
 sub : ∀ p ∈ rest, p ∈ fs
 size : ∀ q ∈ ks, q.tx.size ≤ L + 1
 st : ∀ q ∈ ks, StateOk M.states q.st
 len : ks.length + rest.length * 20000 ≤ fs.length * 20000
structure A1i (M : Mach) (c : Int) (L : Nat) (fs rest : List Plc) (p : Plc) (pre : List Arc) (ks : List Plc) : Prop where
 snd : ∀ q ∈ ks, ∃ p ∈ fs, Goes M c p q
 cmp : ∀ q ∈ fs, q ∈ rest ∨ q = p ∨ ∀ a ∈ runA M.arcs q.st c, stepA q a ∈ ks
 sub : ∀ q ∈ rest, q ∈ fs
 mem : p ∈ fs
 size : ∀ q ∈ ks, q.tx.size ≤ L + 1
 st : ∀ q ∈ ks, StateOk M.states q.st
 len : ks.length + rest.length * 20000 + 20000 ≤ fs.length * 20000 + pre.length
 done : ∀ a ∈ pre, stepA p a ∈ ks
theorem A1.start (M : Mach) (c : Int) (L : Nat) (fs : List Plc) : A1 M c L fs fs [] := ⟨by simp, fun p hp => .inl hp, fun _ h => h, by simp, by simp, by simp⟩
theorem A1.open {M : Mach} {c : Int} {L : Nat} {fs A B ks : List Plc} {p : Plc} (h : A1 M c L fs (A ++ p :: B) ks) : A1i M c L fs (A ++ B) p [] ks := by
 refine ⟨h.snd, fun q hq => ?_, fun q hq => h.sub q ?_, h.sub p (by simp), h.size, h.st, ?_, by simp⟩
 ·rcases h.cmp q hq with h1 | h1
  ·simp at h1
   rcases h1 with h1 | rfl | h1
   ·exact .inl (by simp [h1])
   ·exact .inr (.inl rfl)
   ·exact .inl (by simp [h1])
  ·exact .inr (.inr h1)
 ·simp at hq ⊢; rcases hq with hq | hq <;> simp [hq]
 ·have h1 := h.len
  simp at h1 ⊢; omega
theorem A1i.step {M : Mach} {c : Int} {L : Nat} {fs rest ks : List Plc} {p : Plc} {pre : List Arc} (h : A1i M c L fs rest p pre ks) {a : Arc} (ha : a ∈ runA M.arcs p.st c) (hto : StateOk M.states a.to) (hp : p.tx.size ≤ L) : A1i M c L fs rest p (pre ++ [a]) (addP ks (stepA p a)) := by
 refine ⟨fun q hq => ?_, fun q hq => ?_, h.sub, h.mem, fun q hq => ?_, fun q hq => ?_, ?_, fun b hb => ?_⟩
 ·rcases mem_addP.1 hq with hq | rfl
  ·exact h.snd q hq
  ·exact ⟨p, h.mem, goes_iff.2 ⟨a, ha, rfl⟩⟩
 ·rcases h.cmp q hq with h1 | h1 | h1
  ·exact .inl h1
  ·exact .inr (.inl h1)
  ·exact .inr (.inr fun b hb => mem_addP.2 (.inl (h1 b hb)))
 ·rcases mem_addP.1 hq with hq | rfl
  ·exact h.size q hq
  ·have h1 := afterB_size p.tx a.out
   show (afterB p.tx a.out).size ≤ _
   omega
 ·rcases mem_addP.1 hq with hq | rfl
  ·exact h.st q hq
  ·exact hto
 ·have h1 := addP_len ks (stepA p a)
  have h2 := h.len
  simp; omega
 ·rcases List.mem_append.1 hb with hb | hb
  ·exact mem_addP.2 (.inl (h.done b hb))
  ·obtain rfl : b = a := by simpa using hb
   exact mem_addP.2 (.inr rfl)
theorem A1i.close {M : Mach} {c : Int} {L : Nat} {fs rest ks : List Plc} {p : Plc} (h : A1i M c L fs rest p (runA M.arcs p.st c) ks) (hl : M.arcs.length ≤ 20000) : A1 M c L fs rest ks := by
 refine ⟨h.snd, fun q hq => ?_, h.sub, h.size, h.st, ?_⟩
 ·rcases h.cmp q hq with h1 | rfl | h1
  ·exact .inl h1
  ·exact .inr h.done
  ·exact .inr h1
 ·have h1 := h.len
  have h2 := runA_len M.arcs p.st c
  omega
theorem A1.finish {M : Mach} {c : Int} {L : Nat} {fs ks : List Plc} (h : A1 M c L fs [] ks) (hc : c ≠ 0) (hl : fs.length ≤ 2000) : Ph1 M (Setout M (· ∈ fs) c) L ks := by
 refine ⟨fun q hq => ?_, fun q hq => ?_, h.size, h.st, by have := h.len; simp at this; omega⟩
 ·unfold Setout; rw [if_neg hc]
  obtain ⟨p, hp, hg⟩ := h.snd q hq
  exact ⟨p, hp, hg⟩
 ·unfold Setout at hq; rw [if_neg hc] at hq
  obtain ⟨p, hp, hg⟩ := hq
  obtain ⟨a, ha, rfl⟩ := goes_iff.1 hg
  rcases h.cmp p hp with h1 | h1
  ·cases h1
  ·exact h1 a ha
end Go.Proofs.YthachfkcgdfdfaaGreatDoor

/- Plain words on what a machine answers for a text; sets of strings as the library's sorting wants them. -/
namespace Go.Proofs.YthachfkcgdfdfaaGreatDoor
open Go Classical Go.Maps

theorem nodup_len {α : Type} : ∀ {l m : List α}, l.Nodup → (∀ x ∈ l, x ∈ m) → l.length ≤ m.length
 | [], _, _, _ => Nat.zero_le _
 | x :: l, m, hn, hs => by
  have hx := hs x (by simp)
  obtain ⟨A, B, rfl⟩ := List.append_of_mem hx
  have h1 := nodup_len (l := l) (m := A ++ B) (List.nodup_cons.1 hn).2 (fun y hy => by
   have := hs y (List.mem_cons_of_mem _ hy)
   simp at this ⊢
   rcases this with h | rfl | h
   ·exact .inl h
   ·exact absurd hy (List.nodup_cons.1 hn).1
   ·exact .inr h)
  simp at h1 ⊢; omega
theorem few_of {S : Plc → Prop} {ks : List Plc} (hl : ks.length ≤ 2000) (h : ∀ p, S p → p ∈ ks) : FewPl S := ⟨ks, hl, h⟩
theorem not_few {S : Plc → Prop} {ks : List Plc} (hl : 2000 < ks.length) (hn : ks.Nodup) (h : ∀ p ∈ ks, S p) : ¬ FewPl S := by
 rintro ⟨ks', h1, h2⟩
 have := nodup_len hn (fun p hp => h2 p (h p hp))
 omega

theorem cl_empty {M : Mach} {S : Plc → Prop} (h : ∀ p, ¬ S p) {p : Plc} : ¬ Cl M S p := by
 intro hp
 induction hp with
 | base h0 => exact h _ h0
 | more _ _ ih => exact ih
theorem reach_snoc0 (M : Mach) (l : List UInt8) (p : Plc) : ¬ Reach M (l ++ [0]) p := by
 unfold Reach; rw [List.foldl_append]; simp
theorem snoc_ind {P : List UInt8 → Prop} (h0 : P []) (h1 : ∀ l b, P l → P (l ++ [b])) : ∀ l, P l := by
 intro l
 rw [← List.reverse_reverse l]
 generalize l.reverse = r
 induction r with
 | nil => exact h0
 | cons b r ih => rw [List.reverse_cons]; exact h1 _ _ ih
theorem reach_more (M : Mach) {l : List UInt8} (b : UInt8) (h : ∀ p, ¬ Reach M l p) (p : Plc) : ¬ Reach M (l ++ [b]) p := by
 by_cases hb : b = 0
 ·subst hb; exact reach_snoc0 M _ p
 ·rw [Reach_snoc M _ b hb]
  refine cl_empty (fun q hq => ?_)
  unfold Setout at hq
  rw [if_neg (fun e => hb (by
   have : b.toNat = 0 := by omega
   exact UInt8.toNat_inj.1 this))] at hq
  obtain ⟨q', h1, _⟩ := hq
  exact h q' h1
theorem reach_zero (M : Mach) : ∀ (l : List UInt8), 0 ∈ l → ∀ p, ¬ Reach M l p := by
 refine snoc_ind (fun h => by simp at h) (fun l b ih h p => ?_)
 by_cases h0 : 0 ∈ l
 ·exact reach_more M b (ih h0) p
 ·have hb : b = 0 := by simp [h0] at h; exact h.symm
  subst hb; exact reach_snoc0 M l p

/-- In order, each once. -/
def SortedB (ts : List ByteArray) : Prop := (ts.map bl).Pairwise (fun a b => a ≤ b) ∧ (ts.map bl).Nodup
theorem SortedB.ext {a b : List ByteArray} (ha : SortedB a) (hb : SortedB b) (h : ∀ t, t ∈ a ↔ t ∈ b) : a = b := by
 have hp : (a.map bl).Perm (b.map bl) := by
  refine (List.perm_ext_iff_of_nodup ha.2 hb.2).2 (fun x => ?_)
  rw [List.mem_map, List.mem_map]
  constructor
  ·rintro ⟨t, ht, rfl⟩; exact ⟨t, (h t).1 ht, rfl⟩
  ·rintro ⟨t, ht, rfl⟩; exact ⟨t, (h t).2 ht, rfl⟩
 have he := List.Perm.eq_of_pairwise (le := fun a b : List UInt8 => a ≤ b) (fun x y _ _ h1 h2 => List.le_antisymm h1 h2) ha.1 hb.1 hp
 have hinj : ∀ (a b : List ByteArray), a.map bl = b.map bl → a = b := by
  intro a
  induction a with
  | nil => intro b e; cases b with
   | nil => rfl
   | cons _ _ => simp at e
  | cons x a ih =>
   intro b e
   cases b with
   | nil => simp at e
   | cons y b =>
    simp at e
    rw [bl_inj e.1, ih b e.2]
 exact hinj a b he

/-- What Runs answers: the results, an error. -/
def RunsOf (M : Mach) (x : List UInt8) (ts : List ByteArray) (err : Int) : Prop :=
 (¬ (ValidM M ∧ x.length ≤ 400) ∧ ts = [] ∧ err = 1) ∨
 ((ValidM M ∧ x.length ≤ 400) ∧ ((Circle M ∧ ts = [] ∧ err = 12) ∨
  (¬ Circle M ∧ (((∃ i, i ≤ x.length ∧ ¬ FewPl (Reach M (x.take i))) ∧ ts = [] ∧ err = 2) ∨ ((∀ i, i ≤ x.length → FewPl (Reach M (x.take i))) ∧ err = 0 ∧ SortedB ts ∧ ∀ t, t ∈ ts ↔ Result M x t)))))

/-- A set of strings as the library's sorting reads it. -/
theorem insert_perm {H : Type} (x : Lit × DataW H) : ∀ l : List (Lit × DataW H), (DataW.insert x l).Perm (x :: l)
 | [] => List.Perm.refl _
 | y :: r => by
  rw [DataW.insert]
  split
  ·exact List.Perm.refl _
  ·exact ((insert_perm x r).cons y).trans (List.Perm.swap x y r)
theorem sorted_perm {H : Type} : ∀ l : List (Lit × DataW H), (l.foldr DataW.insert []).Perm l
 | [] => List.Perm.refl _
 | x :: l => (insert_perm x _).trans ((sorted_perm l).cons x)
theorem owns_strs {P : Program} {k : TypeId} (hk : P.underlying k = some .string) {w : World} {b : Nat} {ss : List ByteArray} (h : SetIs w b OkStr (ss.map Value.string)) (hsz : ∀ s ∈ ss, s.size ≤ maxLen) (hl : ss.length ≤ maxLen) :
  ∃ D0 : DataW Unit, w.ownsMap P k (fun _ => some (DataW.nil, [])) b ss.length D0 ∧ (strKeys D0).Perm (ss.map bl) ∧ Maps.size D0 = ss.length := by
 obtain ⟨es, clock, hb, hs, hok, hm⟩ := h
 have hlen : es.size = ss.length := by have := congrArg List.length hm; simpa using this
 have hkeys : es.toList.map (·.key) = ss.map Value.string := by
  have := congrArg (List.map Prod.fst) hm
  simpa [List.map_map, Function.comp_def] using this
 have hkof : ∀ s : ByteArray, s.size ≤ maxLen → keyOf P k (.string s) = some (.string (bl s)) := fun s h => by
  unfold keyOf; rw [hk]; simp [mapKey, hk, h, bl]
 have hrd : ∀ y ∈ es.toList, ∃ s ∈ ss, y.key = .string s ∧ Go.WideElems.rd P k (fun _ => some ((DataW.nil : DataW Unit), [])) y = some (.string (bl s), .nil) := fun y hy => by
  have : y.key ∈ ss.map Value.string := by rw [← hkeys]; exact List.mem_map.2 ⟨y, hy, rfl⟩
  obtain ⟨s, hss, e⟩ := List.mem_map.1 this
  refine ⟨s, hss, e.symm, ?_⟩
  unfold Go.WideElems.rd
  rw [← e, hkof s (hsz s hss)]; rfl
 refine ⟨_, ⟨es, clock, hb, ⟨by omega, hs, fun y hy => by obtain ⟨s, _, _, h⟩ := hrd y hy; exact ⟨_, h⟩⟩, by omega, rfl⟩, ?_, ?_⟩
 ·show (((es.toList.map (Go.WideElems.rg P k (fun _ => some ((DataW.nil : DataW Unit), [])))).foldr DataW.insert []).map fun p => strOf p.1).Perm _
  refine ((sorted_perm _).map _).trans ?_
  have : (es.toList.map (Go.WideElems.rg P k (fun _ => some ((DataW.nil : DataW Unit), [])))).map (fun p => strOf p.1) = ss.map bl := by
   have e2 : ss.map bl = (es.toList.map (·.key)).map (fun v => match v with | .string s => bl s | _ => []) := by
    rw [hkeys, List.map_map]; rfl
   rw [e2, List.map_map, List.map_map]
   refine List.map_congr_left (fun y hy => ?_)
   obtain ⟨s, _, e, h⟩ := hrd y hy
   simp only [Function.comp_apply, Go.WideElems.rg, h, e, Option.getD_some, strOf]
  rw [this]
 ·simp [Maps.size, List.Perm.length_eq (sorted_perm _), hlen]
end Go.Proofs.YthachfkcgdfdfaaGreatDoor

/- Plain words: the results of a machine are those that its runs list, and at most 2000. No program in sight. -/
namespace Go.Proofs.YthachfkcgdfdfaaGreatDoor
open Go Classical

theorem runs_len {M : Mach} {x : List UInt8} {ts : List ByteArray} {err : Int} (h : RunsOf M x ts err) : ts.length ≤ 2000 := by
 rcases h with ⟨_, h, _⟩ | ⟨_, ⟨_, h, _⟩ | ⟨_, ⟨_, h, _⟩ | ⟨hf, _, hs, h⟩⟩⟩
 ·subst h; simp
 ·subst h; simp
 ·subst h; simp
 ·obtain ⟨ks, hk, hp⟩ := hf x.length (Nat.le_refl _)
  rw [List.take_length] at hp
  have h1 : ∀ t ∈ ts, t ∈ ks.map Plc.tx := fun t ht => by
   obtain ⟨_, s, _, hr⟩ := (h t).1 ht
   exact List.mem_map.2 ⟨_, hp _ hr, rfl⟩
  have hn : ts.Nodup := by
   have := hs.2
   unfold List.Nodup at this ⊢
   rw [List.pairwise_map] at this
   exact this.imp (fun hne e => hne (by rw [e]))
  have := nodup_len hn h1
  rw [List.length_map] at this
  omega
end Go.Proofs.YthachfkcgdfdfaaGreatDoor
/- Plain words: ways of arcs, and what machines do, as ways; the inverse machine; how long the results of compiled machines are. No program in sight. -/
namespace Go.Proofs.YthachfkcgdfdfaaGreatDoor
open Go Classical

/-- What a symbol adds to a text. -/
def symb (c : Int) : List UInt8 := if c = 0 then [] else [c.toNat.toUInt8]
/-- A way of arcs: from where, what is read, what is written, to where. -/
inductive Walk (l : List Arc) (s : Int) : List UInt8 → List UInt8 → Int → Prop
 | nil : Walk l s [] [] s
 | snoc {x y : List UInt8} {a : Arc} : Walk l s x y a.frm → a ∈ l → Walk l s (x ++ symb a.inp) (y ++ symb a.out) a.to
/-- The inverse machine. -/
def Arc.inv (a : Arc) : Arc := ⟨a.frm, a.out, a.inp, a.to⟩
structure InvOf (M N : Mach) : Prop where
 states : N.states = M.states
 start : N.start = M.start
 final : N.final = M.final
 inc : Increasing N.arcs
 mem : ∀ a, a ∈ N.arcs ↔ a.inv ∈ M.arcs
 len : N.arcs.length = M.arcs.length
end Go.Proofs.YthachfkcgdfdfaaGreatDoor
/- Plain words: marks that are spread along pairs; the machine without states that are not needed. No program in sight. -/
namespace Go.Proofs.YthachfkcgdfdfaaGreatDoor
open Go Classical

/-- An arc leads from a state to another. -/
def Ar (M : Mach) (s t : Int) : Prop := ∃ a ∈ M.arcs, a.frm = s ∧ a.to = t
def Fwd (M : Mach) (u : Int) : Prop := WayR (Ar M) M.start u
def Bwd (M : Mach) (u : Int) : Prop := ∃ s ∈ M.final, WayR (Ar M) u s
/-- A state that is needed. -/
def Kept (M : Mach) (u : Int) : Prop := u = M.start ∨ (Fwd M u ∧ Bwd M u)
/-- How many states below some number are needed. -/
noncomputable def numK (M : Mach) (s : Nat) : Nat := ((List.range s).filter (fun u : Nat => decide (Kept M (u : Int)))).length
/-- The new number of a state. -/
noncomputable def numI (M : Mach) (s : Int) : Int := (numK M s.toNat : Nat)
noncomputable def Arc.num (M : Mach) (a : Arc) : Arc := ⟨numI M a.frm, a.inp, a.out, numI M a.to⟩
/-- The machine without states that are not needed. -/
noncomputable def trimM (M : Mach) : Mach :=
 ⟨numI M M.states, numI M M.start, (M.final.filter (fun s => decide (Kept M s))).map (numI M), (M.arcs.filter (fun a => decide (Kept M a.frm ∧ Kept M a.to))).map (Arc.num M)⟩

end Go.Proofs.YthachfkcgdfdfaaGreatDoor
