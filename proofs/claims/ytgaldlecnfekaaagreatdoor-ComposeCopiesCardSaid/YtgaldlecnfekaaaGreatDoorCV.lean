/- Plain words: the laws on compositions, unions and inverses, as the runs of machines answer. No program in sight. -/
import Derived.Test.YtgaldlecnfekaaaGreatDoorCU
namespace Go.Proofs.YtgaldlecnfekaaaGreatDoor
open Go Classical

/-- The runs of a machine, as cases. -/
theorem runs_cases {M : Mach} {x : List UInt8} {ts : List ByteArray} {err : Int} (h : RunsOf M x ts err) (hv : ValidM M) (hx : x.length ≤ 400) :
    (err = 12 ∧ Circle M) ∨ (¬ Circle M ∧ ((err = 2 ∧ ∃ i, i ≤ x.length ∧ ¬ FewPl (Reach M (x.take i))) ∨ (err = 0 ∧ (∀ i, i ≤ x.length → FewPl (Reach M (x.take i))) ∧ SortedB ts ∧ ∀ t, t ∈ ts ↔ Result M x t))) := by
  rcases h with ⟨n, _, _⟩ | ⟨_, ⟨c, _, e⟩ | ⟨nc, ⟨f, _, e⟩ | ⟨f, e, s, m⟩⟩⟩
  · exact absurd ⟨hv, hx⟩ n
  · exact .inl ⟨e, c⟩
  · exact .inr ⟨nc, .inl ⟨e, f⟩⟩
  · exact .inr ⟨nc, .inr ⟨e, f, s, m⟩⟩
theorem union_runs {M N U : Mach} (h : UnionM M N U) (hM : ValidM M) (hN : ValidM N) (hU : ValidM U) {x : List UInt8} (hx : x.length ≤ 400) {a b c : List ByteArray} {f g e : Int} (h1 : RunsOf M x a f) (h2 : RunsOf N x b g) (h3 : RunsOf U x c e) :
    ((f = 12 ∨ g = 12) ∧ e = 12) ∨ (f ≠ 12 ∧ g ≠ 12 ∧ ((e = 2) ∨ (f = 0 ∧ g = 0 ∧ e = 0 ∧ SortedB c ∧ ∀ t, t ∈ c ↔ t ∈ a ∨ t ∈ b))) := by
  rcases runs_cases h1 hM hx with ⟨rfl, c1⟩ | ⟨n1, r1⟩
  · rcases runs_cases h3 hU hx with ⟨rfl, _⟩ | ⟨n3, _⟩
    · exact .inl ⟨.inl rfl, rfl⟩
    · exact absurd (h.circleM c1) n3
  rcases runs_cases h2 hN hx with ⟨rfl, c2⟩ | ⟨n2, r2⟩
  · rcases runs_cases h3 hU hx with ⟨rfl, _⟩ | ⟨n3, _⟩
    · exact .inl ⟨.inr rfl, rfl⟩
    · exact absurd (h.circleN c2) n3
  have f12 : f ≠ 12 := by rcases r1 with ⟨rfl, _⟩ | ⟨rfl, _⟩ <;> decide
  have g12 : g ≠ 12 := by rcases r2 with ⟨rfl, _⟩ | ⟨rfl, _⟩ <;> decide
  refine .inr ⟨f12, g12, ?_⟩
  rcases runs_cases h3 hU hx with ⟨_, c3⟩ | ⟨_, ⟨rfl, _⟩ | ⟨rfl, q1, q2, q3⟩⟩
  · rcases h.circle hM hN c3 with c | c
    · exact absurd c n1
    · exact absurd c n2
  · exact .inl rfl
  · right
    rcases r1 with ⟨_, i, hi, hf⟩ | ⟨e1, _, _, m1⟩
    · exact absurd (h.fewM hM hN (q1 i hi)) hf
    rcases r2 with ⟨_, i, hi, hf⟩ | ⟨e2, _, _, m2⟩
    · exact absurd (h.fewN hM hN (q1 i hi)) hf
    exact ⟨e1, e2, rfl, q2, fun t => by rw [q3, m1, m2]; exact h.result hM hN⟩

/-- A trimmed machine stays as it is. -/
theorem num_onto (M : Mach) : ∀ (n v : Nat), v < numK M n → ∃ u, u < n ∧ Kept M (u : Int) ∧ numK M u = v
  | 0, v, h => by simp [numK] at h
  | n + 1, v, h => by
    rw [numK_succ] at h
    by_cases hk : Kept M (n : Int)
    · rw [if_pos hk] at h
      rcases Nat.lt_succ_iff_lt_or_eq.1 h with h | h
      · obtain ⟨u, h1, h2, h3⟩ := num_onto M n v h
        exact ⟨u, by omega, h2, h3⟩
      · exact ⟨n, by omega, hk, h.symm⟩
    · rw [if_neg hk] at h
      obtain ⟨u, h1, h2, h3⟩ := num_onto M n v h
      exact ⟨u, by omega, h2, h3⟩
theorem way_first' {R : Int → Int → Prop} {a b : Int} (h : WayR R a b) : a = b ∨ ∃ c, R a c ∧ WayR R c b := by
  rcases h with e | h
  · exact .inl e
  · obtain ⟨c, h1, h2⟩ := way_first h
    exact .inr ⟨c, h1, h2.elim .inl .inr⟩
theorem trim_ar {M : Mach} {a b : Int} (h : Ar M a b) (ha : Kept M a) (hb : Kept M b) : Ar (trimM M) (numI M a) (numI M b) := by
  obtain ⟨c, hc, rfl, rfl⟩ := h
  exact ⟨c.num M, List.mem_map.2 ⟨c, List.mem_filter.2 ⟨hc, by simpa using ⟨ha, hb⟩⟩, rfl⟩, rfl, rfl⟩
theorem trim_way {M : Mach} {a b : Int} (h : Way (Ar M) a b) (ha : Fwd M a) (hb : Bwd M b) : Way (Ar (trimM M)) (numI M a) (numI M b) := by
  obtain ⟨s, hs, hbs⟩ := hb
  induction h with
  | @one b h1 => exact .one (trim_ar h1 (.inr ⟨ha, s, hs, wayR_trans (.inr (.one h1)) hbs⟩) (.inr ⟨wayR_trans ha (.inr (.one h1)), s, hs, hbs⟩))
  | @more b c h0 h1 ih =>
    have hb' : WayR (Ar M) b s := wayR_trans (.inr (.one h1)) hbs
    have hf : Fwd M b := wayR_trans ha (.inr h0)
    exact (ih hb').more (trim_ar h1 (.inr ⟨hf, s, hs, hb'⟩) (.inr ⟨wayR_trans hf (.inr (.one h1)), s, hs, hbs⟩))
theorem trim_kept {M : Mach} {v : Int} (h : StateOk (trimM M).states v) : Kept (trimM M) v := by
  obtain ⟨h0, h1⟩ := h
  obtain ⟨u, _, hk, e⟩ := num_onto M M.states.toNat v.toNat (by have h2 : v < ((numK M M.states.toNat : Nat) : Int) := h1; omega)
  have ev : numI M (u : Int) = v := by unfold numI; rw [Int.toNat_natCast, e]; omega
  rcases hk with hk | ⟨hf, hb⟩
  · left
    show v = numI M M.start
    rw [← hk, ev]
  · right
    obtain ⟨s, hs, hbs⟩ := hb
    have hks : Kept M s := .inr ⟨wayR_trans hf hbs, s, hs, .inl rfl⟩
    constructor
    · rcases hf with e1 | hw
      · exact .inl (by show numI M M.start = v; rw [e1, ev])
      · exact .inr (by show Way _ (numI M M.start) v; rw [← ev]; exact trim_way hw (.inl rfl) ⟨s, hs, hbs⟩)
    · refine ⟨numI M s, List.mem_map.2 ⟨s, List.mem_filter.2 ⟨hs, by simpa using hks⟩, rfl⟩, ?_⟩
      rcases hbs with e1 | hw
      · exact .inl (by rw [← ev, e1])
      · exact .inr (by rw [← ev]; exact trim_way hw hf ⟨s, hs, .inl rfl⟩)
theorem num_all {M : Mach} (h : ∀ v, StateOk M.states v → Kept M v) : ∀ n : Nat, (n : Int) ≤ M.states → numK M n = n
  | 0, _ => by simp [numK]
  | n + 1, hn => by
    rw [numK_succ, if_pos (h n ⟨by omega, by omega⟩), num_all h n (by omega)]
theorem trim_trim {M : Mach} (hv : ValidM M) : trimM (trimM M) = trimM M := by
  obtain ⟨N, hN⟩ : ∃ N, N = trimM M := ⟨_, rfl⟩
  have hall : ∀ v, StateOk N.states v → Kept N v := fun v h => by rw [hN] at h ⊢; exact trim_kept h
  have hvN : ValidM N := by rw [hN]; exact trim_valid hv
  rw [← hN]
  have hnum : ∀ v, 0 ≤ v → v ≤ N.states → numI N v = v := fun v h0 h1 => by
    unfold numI
    rw [num_all hall v.toNat (by omega)]
    omega
  have hst := hvN.start
  have h1 := hvN.one
  have hf : (N.final.filter (fun s => decide (Kept N s))).map (numI N) = N.final := by
    rw [List.filter_eq_self.2 (fun s hs => by simpa using hall s (hvN.final s hs))]
    conv => rhs; rw [← List.map_id N.final]
    refine List.map_congr_left (fun s hs => ?_)
    have := hvN.final s hs
    exact hnum s this.1 (by have := this.2; omega)
  have ha : (N.arcs.filter (fun a => decide (Kept N a.frm ∧ Kept N a.to))).map (Arc.num N) = N.arcs := by
    rw [List.filter_eq_self.2 (fun a ha => by
      obtain ⟨q1, q2, _⟩ := hvN.arcs a ha
      simpa using ⟨hall _ q1, hall _ q2⟩)]
    conv => rhs; rw [← List.map_id N.arcs]
    refine List.map_congr_left (fun a ha => ?_)
    obtain ⟨⟨q1, q2⟩, ⟨q3, q4⟩, _⟩ := hvN.arcs a ha
    show (⟨numI N a.frm, a.inp, a.out, numI N a.to⟩ : Arc) = a
    rw [hnum _ q1 (by omega), hnum _ q3 (by omega)]
  unfold trimM
  rw [hf, ha, hnum _ (by omega) (Int.le_refl _), hnum _ hst.1 (by have := hst.2; omega)]

/-- What Compose returns of valid machines where no limit is exceeded. -/
def Composed (M N C : Mach) : Prop := ∃ C0 ord arcs, CompM M N C0 ord arcs ∧ ValidM C0 ∧ C = trimM C0
section
variable {K M N C : Mach}
theorem Composed.valid (h : Composed M N C) : ValidM C := by
  obtain ⟨C0, _, _, _, hv, rfl⟩ := h
  exact trim_valid hv
theorem Composed.trim (h : Composed M N C) : trimM C = C := by
  obtain ⟨C0, _, _, _, hv, rfl⟩ := h
  exact trim_trim hv
theorem Composed.result (h : Composed M N C) (hM : ValidM M) (hN : ValidM N) {x : List UInt8} {t : ByteArray} : Result C x t ↔ ∃ u : ByteArray, Result M x u ∧ Result N (bl u) t := by
  obtain ⟨C0, _, _, hc, hv, rfl⟩ := h
  exact (trim_result hv).trans (hc.result hM hN)
theorem Composed.circle (h : Composed M N C) (hc : Circle C) : Circle M ∨ Circle N := by
  obtain ⟨C0, _, _, h0, hv, rfl⟩ := h
  exact h0.circle (trim_circle hv hc)
/-- Three machines: it is the same which two are composed first. -/
theorem composed_three {A B E D : Mach} (hK : ValidM K) (hM : ValidM M) (hN : ValidM N) (h1 : Composed K M A) (h2 : Composed A N B) (h3 : Composed M N E) (h4 : Composed K E D) {x : List UInt8} {t : ByteArray} : Result B x t ↔ Result D x t := by
  rw [h2.result h1.valid hN, h4.result hK h3.valid]
  constructor
  · rintro ⟨v, q1, q2⟩
    obtain ⟨u, q3, q4⟩ := (h1.result hK hM).1 q1
    exact ⟨u, q3, (h3.result hM hN).2 ⟨v, q4, q2⟩⟩
  · rintro ⟨u, q1, q2⟩
    obtain ⟨v, q3, q4⟩ := (h3.result hM hN).1 q2
    exact ⟨v, (h1.result hK hM).2 ⟨u, q1, q3⟩, q4⟩
/-- The inverse of a composition, and the composition of the inverses in the opposite order. -/
theorem composed_inverts {A P Q B : Mach} (hM : ValidM M) (hN : ValidM N) (h1 : Composed M N C) (h2 : InvOf C A) (h3 : InvOf M P) (h4 : InvOf N Q) (h5 : Composed Q P B) {x t : ByteArray} : Result A (bl x) t ↔ Result B (bl x) t := by
  rw [h2.result h1.valid, h1.result hM hN, h5.result (h4.valid hN) (h3.valid hM)]
  constructor
  · rintro ⟨u, q1, q2⟩
    exact ⟨u, (h4.result hN).2 q2, (h3.result hM).2 q1⟩
  · rintro ⟨u, q1, q2⟩
    exact ⟨u, (h3.result hM).1 q2, (h4.result hN).1 q1⟩
/-- Two machines with the same results answer the same, where both answer. -/
theorem runs_same {x : List UInt8} {a b : List ByteArray} (h1 : RunsOf M x a 0) (h2 : RunsOf N x b 0) (h : ∀ t, Result M x t ↔ Result N x t) : a = b := by
  rcases h1 with ⟨_, _, e⟩ | ⟨_, ⟨_, _, e⟩ | ⟨_, ⟨_, _, e⟩ | ⟨_, _, s1, m1⟩⟩⟩
  · cases e
  · cases e
  · cases e
  rcases h2 with ⟨_, _, e⟩ | ⟨_, ⟨_, _, e⟩ | ⟨_, ⟨_, _, e⟩ | ⟨_, _, s2, m2⟩⟩⟩
  · cases e
  · cases e
  · cases e
  exact s1.ext s2 (fun t => by rw [m1, m2, h])
end

/-- The law on the results of compositions, as its loops ask it. -/
theorem joins_runs {M N C : Mach} (h : Composed M N C) (hM : ValidM M) (hN : ValidM N) (h8 : M.states ≤ 8) {x : List UInt8} (hx : x.length ≤ 8) {l all : List ByteArray} {e : Int} (h1 : RunsOf M x l 0) (hc : ¬ Circle N) (h2 : RunsOf C x all e) :
    e = 2 ∨ (e = 0 ∧ SortedB all ∧ (∀ u ∈ l, ∀ (z : List ByteArray) (k : Int), RunsOf N (bl u) z k → k = 2 ∨ (k = 0 ∧ ∀ t, t ∈ z ↔ Result N (bl u) t)) ∧ ∀ t, t ∈ all ↔ ∃ u ∈ l, Result N (bl u) t) := by
  rcases runs_cases h1 hM (by omega) with ⟨c, _⟩ | ⟨n1, ⟨c, _⟩ | ⟨_, _, _, m1⟩⟩
  · cases c
  · cases c
  rcases runs_cases h2 h.valid (by omega) with ⟨_, c⟩ | ⟨_, ⟨c, _⟩ | ⟨e0, _, s2, m2⟩⟩
  · rcases h.circle c with c | c
    · exact absurd c n1
    · exact absurd c hc
  · exact .inl c
  · refine .inr ⟨e0, s2, fun u hu z k hz => ?_, fun t => ?_⟩
    · have hs := small_result hM n1 h8 ((m1 u).1 hu)
      rcases runs_cases hz hN (by rw [bl_length]; omega) with ⟨_, c⟩ | ⟨_, ⟨c, _⟩ | ⟨k0, _, _, m3⟩⟩
      · exact absurd c hc
      · exact .inl c
      · exact .inr ⟨k0, m3⟩
    · rw [m2, h.result hM hN]
      constructor
      · rintro ⟨u, q1, q2⟩; exact ⟨u, (m1 u).2 q1, q2⟩
      · rintro ⟨u, q1, q2⟩; exact ⟨u, (m1 u).1 q1, q2⟩
/-- Lists without doubles with the same elements are equally long. -/
theorem same_len {α : Type} {a b : List α} (ha : a.Nodup) (hb : b.Nodup) (h : ∀ t, t ∈ a ↔ t ∈ b) : a.length = b.length :=
  Nat.le_antisymm (nodup_len ha (fun t ht => (h t).1 ht)) (nodup_len hb (fun t ht => (h t).2 ht))
theorem SortedB.nodup {ts : List ByteArray} (h : SortedB ts) : ts.Nodup := by
  have := h.2
  unfold List.Nodup at this ⊢
  rw [List.pairwise_map] at this
  exact this.imp (fun hne e => hne (by rw [e]))
end Go.Proofs.YtgaldlecnfekaaaGreatDoor
