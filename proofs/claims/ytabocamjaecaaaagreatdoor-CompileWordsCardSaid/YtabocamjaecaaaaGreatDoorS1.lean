/- Plain words: the search for the least text with a result comes to an end. No program in sight. -/
import Derived.Test.YtabocamjaecaaaaGreatDoorGH
namespace Go.Proofs.YtabocamjaecaaaaGreatDoor
open Go Classical

/-- What is known of a state: its least text and result. -/
structure Bst where
 x : List UInt8
 y : List UInt8
 is : Bool

/-- A text comes before another one of the same length, or is shorter. -/
def Short (a b : List UInt8) : Prop := a.length < b.length ∨ a.length = b.length ∧ a < b
/-- A pair comes before another one. -/
def Bst.lt (a b : Bst) : Prop := Short a.x b.x ∨ a.x = b.x ∧ Short a.y b.y

/-- A text as a number: shorter texts first. -/
def num : List UInt8 → Nat
 | [] => 1
 | l => l.foldl (fun n c => n * 256 + c.toNat) 1
theorem num_eq (l : List UInt8) : num l = l.foldl (fun n c => n * 256 + c.toNat) 1 := by cases l <;> rfl
theorem fold_lt : ∀ (l : List UInt8) (n : Nat), n * 256 ^ l.length ≤ l.foldl (fun n c => n * 256 + c.toNat) n ∧ l.foldl (fun n c => n * 256 + c.toNat) n < (n + 1) * 256 ^ l.length
 | [], n => by simp
 | c :: l, n => by
  obtain ⟨h1, h2⟩ := fold_lt l (n * 256 + c.toNat)
  have hc : c.toNat < 256 := c.toNat_lt
  rw [List.foldl_cons, List.length_cons, Nat.pow_succ]
  have e1 : n * (256 ^ l.length * 256) = n * 256 * 256 ^ l.length := by rw [Nat.mul_comm (256 ^ l.length) 256, ← Nat.mul_assoc]
  have e2 : (n + 1) * (256 ^ l.length * 256) = (n * 256 + 256) * 256 ^ l.length := by rw [Nat.mul_comm (256 ^ l.length) 256, ← Nat.mul_assoc, Nat.add_mul]
  rw [e1, e2]
  exact ⟨Nat.le_trans (Nat.mul_le_mul_right _ (by omega)) h1, Nat.lt_of_lt_of_le h2 (Nat.mul_le_mul_right _ (by omega))⟩
theorem fold_mono {n m : Nat} (h : n < m) : ∀ (k l : List UInt8), k.length = l.length → k.foldl (fun n c => n * 256 + c.toNat) n < l.foldl (fun n c => n * 256 + c.toNat) m := by
 intro k l hl
 have h1 := (fold_lt k n).2
 have h2 := (fold_lt l m).1
 rw [← hl] at h2
 exact Nat.lt_of_lt_of_le h1 (Nat.le_trans (Nat.mul_le_mul_right _ h) h2)
theorem fold_lex : ∀ (k l : List UInt8) (n : Nat), k.length = l.length → k < l → k.foldl (fun n c => n * 256 + c.toNat) n < l.foldl (fun n c => n * 256 + c.toNat) n
 | [], [], _, _, h => absurd h (List.lt_irrefl _)
 | a :: k, b :: l, n, hl, h => by
  rw [List.foldl_cons, List.foldl_cons]
  rcases List.cons_lt_cons_iff.1 h with h1 | ⟨rfl, h1⟩
  ·exact fold_mono (by have : a.toNat < b.toNat := h1; omega) k l (by simpa using hl)
  ·exact fold_lex k l _ (by simpa using hl) h1
theorem num_short {a b : List UInt8} (h : Short a b) : num a < num b := by
 rw [num_eq, num_eq]
 rcases h with h | ⟨h1, h2⟩
 ·have q1 := (fold_lt a 1).2
  have q2 := (fold_lt b 1).1
  have q3 : 256 ^ (a.length + 1) ≤ 256 ^ b.length := Nat.pow_le_pow_right (by omega) h
  rw [Nat.pow_succ] at q3
  omega
 ·exact fold_lex a b 1 h1 h2
theorem num_le {a : List UInt8} {n : Nat} (h : a.length ≤ n) : num a < 2 * 256 ^ n := by
 rw [num_eq]
 have q1 := (fold_lt a 1).2
 have q3 : 256 ^ a.length ≤ 256 ^ n := Nat.pow_le_pow_right (by omega) h
 omega
/-- How far a state is from its least. -/
def Bst.rank (n : Nat) (b : Bst) : Nat := if b.is then num b.x * (2 * 256 ^ n) + num b.y else 2 * 256 ^ n * (2 * 256 ^ n)
theorem rank_lt {n : Nat} {a b : Bst} (ha : a.is = true) (hx : a.x.length ≤ n) (hy : a.y.length ≤ n) (h : b.is = true → a.lt b) : a.rank n < b.rank n := by
 have q1 := num_le hx
 have q2 := num_le hy
 unfold Bst.rank
 rw [if_pos ha]
 have key : ∀ k, num a.x < k → num a.x * (2 * 256 ^ n) + num a.y < k * (2 * 256 ^ n) := fun k hk => by
  have : (num a.x + 1) * (2 * 256 ^ n) ≤ k * (2 * 256 ^ n) := Nat.mul_le_mul_right _ hk
  rw [Nat.add_mul] at this
  omega
 split
 ·rename_i hb
  rcases h hb with h | ⟨h1, h2⟩
  ·have := key _ (num_short h)
   omega
  ·have := num_short h2
   rw [h1]
   omega
 ·exact key _ q1
def ranks (n : Nat) (l : List Bst) : Nat := (l.map (Bst.rank n)).foldr (· + ·) 0
theorem ranks_set {n : Nat} {b : Bst} : ∀ {l : List Bst} {k : Nat} {a : Bst}, l[k]? = some a → b.rank n < a.rank n → ranks n (l.set k b) < ranks n l
 | [], _, _, h, _ => by simp at h
 | c :: l, 0, a, h, hr => by
  obtain rfl : c = a := by simpa using h
  simp only [ranks, List.set_cons_zero, List.map_cons, List.foldr_cons]
  omega
 | c :: l, k + 1, a, h, hr => by
  have := ranks_set (l := l) (k := k) (by simpa using h) hr
  simp only [ranks, List.set_cons_succ, List.map_cons, List.foldr_cons] at this ⊢
  omega

section
variable {M : Mach}
/-- A way of arcs to a final state, over states each of which knows a text that is not longer than what is left. -/
inductive Good (M : Mach) (l : List Bst) : Int → List Int → List UInt8 → List UInt8 → Prop
 | fin {s : Int} {b : Bst} : l[s.toNat]? = some b → b.is = true → b.x.length ≤ 0 → StateOk M.states s → Good M l s [s] [] []
 | arc {a : Arc} {vs : List Int} {x y : List UInt8} {b : Bst} : Good M l a.to vs x y → a ∈ M.arcs → StateOk M.states a.frm → l[a.frm.toNat]? = some b → b.is = true → b.x.length ≤ (symb a.inp ++ x).length → Good M l a.frm (a.frm :: vs) (symb a.inp ++ x) (symb a.out ++ y)
def Lower (l l' : List Bst) : Prop := ∀ (k : Nat) b, l[k]? = some b → b.is = true → ∃ b', l'[k]? = some b' ∧ b'.is = true ∧ b'.x.length ≤ b.x.length
theorem Good.lower {l l' : List Bst} (hl : Lower l l') {s : Int} {vs : List Int} {x y : List UInt8} (h : Good M l s vs x y) : Good M l' s vs x y := by
 induction h with
 | fin h1 h2 h3 h4 =>
  obtain ⟨b', q1, q2, q3⟩ := hl _ _ h1 h2
  exact .fin q1 q2 (by omega) h4
 | arc _ ha hs h1 h2 h3 ih =>
  obtain ⟨b', q1, q2, q3⟩ := hl _ _ h1 h2
  exact .arc ih ha hs q1 q2 (by omega)
theorem Good.states {l : List Bst} {s : Int} {vs : List Int} {x y : List UInt8} (h : Good M l s vs x y) : (∀ v ∈ vs, StateOk M.states v) ∧ x.length < vs.length ∧ y.length < vs.length := by
 induction h with
 | fin _ _ _ h4 =>
  refine ⟨fun v hv => ?_, by simp, by simp⟩
  obtain rfl := List.mem_singleton.1 hv
  exact h4
 | @arc a vs x y b _ _ hs _ _ _ ih =>
  obtain ⟨h1, h2, h3⟩ := ih
  have q1 := symb_len a.inp
  have q2 := symb_len a.out
  refine ⟨fun v hv => ?_, by simp only [List.length_append, List.length_cons]; omega, by simp only [List.length_append, List.length_cons]; omega⟩
  rcases List.mem_cons.1 hv with rfl | hv
  ·exact hs
  ·exact h1 v hv
theorem symb_nil {c : Int} (h : symb c = []) : c = 0 := by
 unfold symb at h
 split at h
 ·assumption
 ·simp at h
/-- What a way's state knows; where nothing was read on the way there, the way is silent. -/
theorem Good.at_state {l : List Bst} {s : Int} {vs : List Int} {x y : List UInt8} (h : Good M l s vs x y) : ∀ v ∈ vs, ∃ b u z, l[v.toNat]? = some b ∧ b.is = true ∧ x = u ++ z ∧ b.x.length ≤ z.length ∧ (u = [] → WayR (Ed M) s v) := by
 induction h with
 | fin h1 h2 h3 _ =>
  intro v hv
  obtain rfl := List.mem_singleton.1 hv
  exact ⟨_, [], [], h1, h2, rfl, h3, fun _ => .inl rfl⟩
 | @arc a vs x y b _ ha _ h1 h2 h3 ih =>
  intro v hv
  rcases List.mem_cons.1 hv with rfl | hv
  ·exact ⟨b, [], _, h1, h2, rfl, h3, fun _ => .inl rfl⟩
  ·obtain ⟨c, u, z, q1, q2, q3, q4, q5⟩ := ih v hv
   refine ⟨c, symb a.inp ++ u, z, q1, q2, by rw [q3, List.append_assoc], q4, fun e => ?_⟩
   obtain ⟨e1, e2⟩ := List.append_eq_nil_iff.1 e
   have hed : Ed M a.frm a.to := ⟨a, mem_runA.2 ⟨ha, rfl, symb_nil e1⟩, rfl⟩
   rcases q5 e2 with rfl | hw
   ·exact .inr (.one hed)
   ·exact .inr (Way.trans (.one hed) hw)
/-- What holds of the table. -/
structure BestOk (M : Mach) (l : List Bst) : Prop where
 len : (l.length : Int) = M.states
 good : ∀ (s : Int) b, 0 ≤ s → l[s.toNat]? = some b → b.is = true → ∃ vs, Good M l s vs b.x b.y ∧ vs.Nodup
theorem Good.short {l : List Bst} (hl : (l.length : Int) = M.states) {s : Int} {vs : List Int} {x y : List UInt8} (h : Good M l s vs x y) (hn : vs.Nodup) : x.length < l.length ∧ y.length < l.length := by
 obtain ⟨h1, h2, h3⟩ := h.states
 have : vs.length ≤ ((List.range l.length).map (fun i : Nat => (i : Int))).length := nodup_len hn (fun v hv => by
  have := h1 v hv
  unfold StateOk at this
  exact List.mem_map.2 ⟨v.toNat, List.mem_range.2 (by omega), by omega⟩)
 rw [List.length_map, List.length_range] at this
 omega
theorem BestOk.short {l : List Bst} (h : BestOk M l) {k : Nat} {b : Bst} (hk : l[k]? = some b) (hb : b.is = true) : b.x.length < l.length ∧ b.y.length < l.length := by
 obtain ⟨vs, h1, h2⟩ := h.good (k : Int) b (by omega) (by simpa using hk) hb
 exact h1.short h.len h2
/-- A step of the search. -/
theorem BestOk.step {l : List Bst} (h : BestOk M l) (hM : ValidM M) (hc : ¬ Circle M) {a : Arc} (ha : a ∈ M.arcs) {old rest new : Bst} (ho : l[a.frm.toNat]? = some old) (hr : l[a.to.toNat]? = some rest)
  (his : rest.is = true) (hnx : new.x = symb a.inp ++ rest.x) (hny : new.y = symb a.out ++ rest.y) (hni : new.is = true) (hlt : old.is = true → new.lt old) :
  BestOk M (l.set a.frm.toNat new) ∧ ranks l.length (l.set a.frm.toNat new) < ranks l.length l := by
 obtain ⟨vf, vt, _, _⟩ := hM.arcs a ha
 have hf := vf
 have ht := vt
 unfold StateOk at hf ht
 obtain ⟨vs, hg, hn⟩ := h.good a.to rest ht.1 hr his
 have hlen : a.frm.toNat < l.length := (List.getElem?_eq_some_iff.1 ho).1
 have hnx' : old.is = true → new.x.length ≤ old.x.length := fun hi => by
  rcases hlt hi with (q | ⟨q, _⟩) | ⟨q, _⟩
  ·omega
  ·omega
  ·rw [q]; exact Nat.le_refl _
 have hlow : Lower l (l.set a.frm.toNat new) := fun k b hk hb => by
  by_cases e : k = a.frm.toNat
  ·subst e
   rw [ho] at hk
   obtain rfl := Option.some.inj hk
   exact ⟨new, by rw [List.getElem?_set_self hlen], hni, hnx' hb⟩
  ·exact ⟨b, by rw [List.getElem?_set_ne (fun e' => e e'.symm)]; exact hk, hb, Nat.le_refl _⟩
 have hgn : Good M (l.set a.frm.toNat new) a.frm (a.frm :: vs) new.x new.y := by
  rw [hnx, hny]
  exact .arc (hg.lower hlow) ha vf (b := new) (by rw [List.getElem?_set_self hlen]) hni (by rw [hnx]; exact Nat.le_refl _)
 have hnod : (a.frm :: vs).Nodup := by
  refine List.nodup_cons.2 ⟨fun hin => ?_, hn⟩
  obtain ⟨b, u, z, q1, q2, q3, q4, q5⟩ := hg.at_state a.frm hin
  rw [ho] at q1
  obtain rfl := Option.some.inj q1
  have h1 := hnx' q2
  rw [hnx, q3, List.length_append, List.length_append] at h1
  have e1 : symb a.inp = [] := List.length_eq_zero_iff.1 (by omega)
  have e2 : u = [] := List.length_eq_zero_iff.1 (by omega)
  have hed : Ed M a.frm a.to := ⟨a, mem_runA.2 ⟨ha, rfl, symb_nil e1⟩, rfl⟩
  refine hc ⟨a.frm, ?_⟩
  rcases q5 e2 with e | hw
  ·rw [e] at hed
   exact .one hed
  ·exact Way.trans (.one hed) hw
 have hok : BestOk M (l.set a.frm.toNat new) := by
  refine ⟨by rw [List.length_set]; exact h.len, fun s b hs0 hk hb => ?_⟩
  by_cases e : s.toNat = a.frm.toNat
  ·have e' : s = a.frm := by omega
   subst e'
   rw [List.getElem?_set_self hlen] at hk
   obtain rfl := Option.some.inj hk
   exact ⟨_, hgn, hnod⟩
  ·rw [List.getElem?_set_ne (fun e' => e e'.symm)] at hk
   obtain ⟨ws, q1, q2⟩ := h.good s b hs0 hk hb
   exact ⟨ws, q1.lower hlow, q2⟩
 refine ⟨hok, ranks_set ho ?_⟩
 obtain ⟨s1, s2⟩ := hgn.short (by rw [List.length_set]; exact h.len) hnod
 rw [List.length_set] at s1 s2
 exact rank_lt hni (by omega) (by omega) hlt
/-- The table at the start. -/
theorem BestOk.start {l : List Bst} (hlen : (l.length : Int) = M.states) (h : ∀ (k : Nat) b, l[k]? = some b → b.x = [] ∧ b.y = [] ∧ (b.is = true → (k : Int) ∈ M.final)) : BestOk M l := by
 refine ⟨hlen, fun s b hs hk hb => ?_⟩
 obtain ⟨e1, e2, _⟩ := h _ b hk
 have hl := (List.getElem?_eq_some_iff.1 hk).1
 refine ⟨[s], ?_, by simp⟩
 rw [e1, e2]
 exact .fin hk hb (by rw [e1]; simp) ⟨hs, by omega⟩
end
end Go.Proofs.YtabocamjaecaaaaGreatDoor
