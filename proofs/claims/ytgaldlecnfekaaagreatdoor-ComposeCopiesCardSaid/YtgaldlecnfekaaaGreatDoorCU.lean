/- Plain words: the union of two machines. No program in sight. -/
import Derived.Test.YtgaldlecnfekaaaGreatDoorCP
namespace Go.Proofs.YtgaldlecnfekaaaGreatDoor
open Go Classical

structure UnionM (M N U : Mach) : Prop where
  states : U.states = M.states + N.states + 1
  start : U.start = M.states + N.states
  final : ∀ s, s ∈ U.final ↔ s ∈ M.final ∨ (∃ f ∈ N.final, s = f + M.states) ∨ (s = U.start ∧ (M.start ∈ M.final ∨ N.start ∈ N.final))
  inc : U.final.Pairwise (· < ·)
  arcsInc : Increasing U.arcs
  mem : ∀ a, a ∈ U.arcs ↔ a ∈ M.arcs ∨ (∃ b ∈ N.arcs, a = ⟨b.frm + M.states, b.inp, b.out, b.to + M.states⟩) ∨ (∃ b ∈ M.arcs, b.frm = M.start ∧ a = ⟨U.start, b.inp, b.out, b.to⟩) ∨
    (∃ b ∈ N.arcs, b.frm = N.start ∧ a = ⟨U.start, b.inp, b.out, b.to + M.states⟩)
section
variable {M N U : Mach}
theorem UnionM.arcOk (h : UnionM M N U) (hM : ValidM M) (hN : ValidM N) : ∀ a ∈ U.arcs, StateOk U.states a.frm ∧ StateOk U.states a.to ∧ SymOk a.inp ∧ SymOk a.out := by
  intro a ha
  have h1 := h.states
  have h2 := h.start
  have m1 := hM.one
  have n1 := hN.one
  rcases (h.mem a).1 ha with ha | ⟨b, hb, rfl⟩ | ⟨b, hb, _, rfl⟩ | ⟨b, hb, _, rfl⟩
  · obtain ⟨⟨q1, q2⟩, ⟨q3, q4⟩, q5, q6⟩ := hM.arcs a ha
    exact ⟨⟨q1, by omega⟩, ⟨q3, by omega⟩, q5, q6⟩
  · obtain ⟨⟨q1, q2⟩, ⟨q3, q4⟩, q5, q6⟩ := hN.arcs b hb
    exact ⟨⟨by show 0 ≤ b.frm + M.states; omega, by show b.frm + M.states < U.states; omega⟩, ⟨by show 0 ≤ b.to + M.states; omega, by show b.to + M.states < U.states; omega⟩, q5, q6⟩
  · obtain ⟨_, ⟨q3, q4⟩, q5, q6⟩ := hM.arcs b hb
    exact ⟨⟨by show 0 ≤ U.start; omega, by show U.start < U.states; omega⟩, ⟨q3, by show b.to < U.states; omega⟩, q5, q6⟩
  · obtain ⟨_, ⟨q3, q4⟩, q5, q6⟩ := hN.arcs b hb
    exact ⟨⟨by show 0 ≤ U.start; omega, by show U.start < U.states; omega⟩, ⟨by show 0 ≤ b.to + M.states; omega, by show b.to + M.states < U.states; omega⟩, q5, q6⟩
theorem UnionM.valid (h : UnionM M N U) (hM : ValidM M) (hN : ValidM N) (hs : U.states ≤ 4000) (ha : U.arcs.length ≤ 20000) : ValidM U := by
  have h1 := h.states
  have h2 := h.start
  have m1 := hM.one
  have n1 := hN.one
  refine ⟨by omega, hs, ⟨by omega, by omega⟩, ha, fun s hs' => ?_, h.inc, h.arcOk hM hN, h.arcsInc⟩
  rcases (h.final s).1 hs' with q | ⟨f, q, rfl⟩ | ⟨rfl, _⟩
  · have := hM.final s q; exact ⟨this.1, by have := this.2; omega⟩
  · have := hN.final f q; exact ⟨by have := this.1; omega, by have := this.2; omega⟩
  · exact ⟨by omega, by omega⟩
/-- A way from the start of the union. -/
theorem UnionM.walk (h : UnionM M N U) (hM : ValidM M) (hN : ValidM N) {x y : List UInt8} {s : Int} (k : Walk U.arcs U.start x y s) :
    (s = U.start ∧ x = [] ∧ y = []) ∨ (StateOk M.states s ∧ Walk M.arcs M.start x y s) ∨ ∃ q, StateOk N.states q ∧ s = q + M.states ∧ Walk N.arcs N.start x y q := by
  have h2 := h.start
  have m1 := hM.one
  have n1 := hN.one
  induction k with
  | nil => exact .inl ⟨rfl, rfl, rfl⟩
  | @snoc x y a _ ha ih =>
    rcases (h.mem a).1 ha with ha | ⟨b, hb, rfl⟩ | ⟨b, hb, hs, rfl⟩ | ⟨b, hb, hs, rfl⟩
    · obtain ⟨q1, q2, _⟩ := hM.arcs a ha
      have := q1.2
      rcases ih with ⟨e, _⟩ | ⟨_, w⟩ | ⟨q, q3, e, _⟩
      · exact absurd e (by omega)
      · exact .inr (.inl ⟨q2, w.snoc ha⟩)
      · exact absurd e (by have := q3.1; omega)
    · obtain ⟨q1, q2, _⟩ := hN.arcs b hb
      have q3 := q1.1
      have q4 := q1.2
      simp only at ih
      rcases ih with ⟨e, _⟩ | ⟨q5, _⟩ | ⟨q, _, e, w⟩
      · exact absurd e (by omega)
      · exact absurd q5.2 (by omega)
      · have e' : q = b.frm := by omega
        subst e'
        exact .inr (.inr ⟨b.to, q2, rfl, w.snoc hb⟩)
    · obtain ⟨_, q2, _⟩ := hM.arcs b hb
      simp only at ih
      rcases ih with ⟨_, rfl, rfl⟩ | ⟨q5, _⟩ | ⟨q, q3, e, _⟩
      · refine .inr (.inl ⟨q2, Walk.snoc (a := b) ?_ hb⟩)
        rw [hs]; exact .nil
      · exact absurd q5.2 (by omega)
      · exact absurd e (by have := q3.2; omega)
    · obtain ⟨_, q2, _⟩ := hN.arcs b hb
      simp only at ih
      rcases ih with ⟨_, rfl, rfl⟩ | ⟨q5, _⟩ | ⟨q, q3, e, _⟩
      · refine .inr (.inr ⟨b.to, q2, rfl, Walk.snoc (a := b) ?_ hb⟩)
        rw [hs]; exact .nil
      · exact absurd q5.2 (by omega)
      · exact absurd e (by have := q3.2; omega)
theorem UnionM.walkM (h : UnionM M N U) {x y : List UInt8} {s : Int} (k : Walk M.arcs M.start x y s) : (s = M.start ∧ x = [] ∧ y = []) ∨ Walk U.arcs U.start x y s := by
  induction k with
  | nil => exact .inl ⟨rfl, rfl, rfl⟩
  | @snoc x y a _ ha ih =>
    rcases ih with ⟨e, rfl, rfl⟩ | w
    · exact .inr (Walk.more (u := a.to) .nil ((h.mem _).2 (.inr (.inr (.inl ⟨a, ha, e, rfl⟩)))) rfl rfl)
    · exact .inr (w.snoc ((h.mem a).2 (.inl ha)))
theorem UnionM.walkN (h : UnionM M N U) {x y : List UInt8} {s : Int} (k : Walk N.arcs N.start x y s) : (s = N.start ∧ x = [] ∧ y = []) ∨ Walk U.arcs U.start x y (s + M.states) := by
  induction k with
  | nil => exact .inl ⟨rfl, rfl, rfl⟩
  | @snoc x y a _ ha ih =>
    rcases ih with ⟨e, rfl, rfl⟩ | w
    · exact .inr (Walk.more (u := a.to + M.states) .nil ((h.mem _).2 (.inr (.inr (.inr ⟨a, ha, e, rfl⟩)))) rfl rfl)
    · exact .inr (Walk.more (u := a.to + M.states) w ((h.mem _).2 (.inr (.inl ⟨a, ha, rfl⟩))) rfl rfl)
theorem UnionM.result (h : UnionM M N U) (hM : ValidM M) (hN : ValidM N) {x : List UInt8} {t : ByteArray} : Result U x t ↔ Result M x t ∨ Result N x t := by
  have h2 := h.start
  have m1 := hM.one
  have n1 := hN.one
  rw [result_iff (fun a ha => (h.arcOk hM hN a ha).2.2.1), result_iff (fun a ha => (hM.arcs a ha).2.2.1), result_iff (fun a ha => (hN.arcs a ha).2.2.1)]
  constructor
  · rintro ⟨s, hs, hw⟩
    have hf := (h.final s).1 hs
    rcases h.walk hM hN hw with ⟨rfl, rfl, e⟩ | ⟨q1, w⟩ | ⟨q, q1, rfl, w⟩
    · have hb : M.start ∈ M.final ∨ N.start ∈ N.final := by
        rcases hf with hf | ⟨f, hf, e1⟩ | ⟨_, hf⟩
        · have := (hM.final _ hf).2; omega
        · have := (hN.final f hf).2; omega
        · exact hf
      rw [e]
      rcases hb with hb | hb
      · exact .inl ⟨_, hb, .nil⟩
      · exact .inr ⟨_, hb, .nil⟩
    · have := q1.2
      rcases hf with hf | ⟨f, hf, e1⟩ | ⟨e1, _⟩
      · exact .inl ⟨s, hf, w⟩
      · have := (hN.final f hf).1; omega
      · omega
    · have q2 := q1.1
      have q3 := q1.2
      rcases hf with hf | ⟨f, hf, e1⟩ | ⟨e1, _⟩
      · have := (hM.final _ hf).2; omega
      · have e2 : q = f := by omega
        exact .inr ⟨q, e2 ▸ hf, w⟩
      · omega
  · rintro (⟨s, hs, hw⟩ | ⟨s, hs, hw⟩)
    · rcases h.walkM hw with ⟨rfl, rfl, e⟩ | w
      · exact ⟨U.start, (h.final _).2 (.inr (.inr ⟨rfl, .inl hs⟩)), by rw [e]; exact .nil⟩
      · exact ⟨s, (h.final s).2 (.inl hs), w⟩
    · rcases h.walkN hw with ⟨rfl, rfl, e⟩ | w
      · exact ⟨U.start, (h.final _).2 (.inr (.inr ⟨rfl, .inr hs⟩)), by rw [e]; exact .nil⟩
      · exact ⟨s + M.states, (h.final _).2 (.inr (.inl ⟨s, hs, rfl⟩)), w⟩
theorem UnionM.circleM (h : UnionM M N U) (hc : Circle M) : Circle U := by
  obtain ⟨s, hs⟩ := hc
  refine ⟨s, way_of (fun a b hab => ?_) hs⟩
  obtain ⟨c, hc, rfl⟩ := hab
  obtain ⟨h1, h2, h3⟩ := mem_runA.1 hc
  exact ⟨c, mem_runA.2 ⟨(h.mem c).2 (.inl h1), h2, h3⟩, rfl⟩
where
  way_of {R S : Int → Int → Prop} (h : ∀ a b, R a b → S a b) {a b : Int} (k : Way R a b) : Way S a b := by
    induction k with
    | one h1 => exact .one (h _ _ h1)
    | more _ h1 ih => exact ih.more (h _ _ h1)
theorem UnionM.circleN (h : UnionM M N U) (hc : Circle N) : Circle U := by
  obtain ⟨s, hs⟩ := hc
  have key : ∀ a b, Way (Ed N) a b → Way (Ed U) (a + M.states) (b + M.states) := fun a b hab => by
    have one : ∀ a b, Ed N a b → Ed U (a + M.states) (b + M.states) := fun a b hab => by
      obtain ⟨c, hc, rfl⟩ := hab
      obtain ⟨h1, h2, h3⟩ := mem_runA.1 hc
      exact ⟨⟨c.frm + M.states, c.inp, c.out, c.to + M.states⟩, mem_runA.2 ⟨(h.mem _).2 (.inr (.inl ⟨c, h1, rfl⟩)), by show c.frm + M.states = _; rw [h2], h3⟩, rfl⟩
    induction hab with
    | one h1 => exact .one (one _ _ h1)
    | more _ h1 ih => exact ih.more (one _ _ h1)
  exact ⟨_, key s s hs⟩
theorem UnionM.circle (h : UnionM M N U) (hM : ValidM M) (hN : ValidM N) (hc : Circle U) : Circle M ∨ Circle N := by
  have h2 := h.start
  have m1 := hM.one
  have n1 := hN.one
  -- behind an edge no state is the union's start
  have one : ∀ a b, Ed U a b → (a = U.start ∧ b ≠ U.start) ∨ (a < M.states ∧ b < M.states ∧ Ed M a b) ∨ (M.states ≤ a ∧ a ≠ U.start ∧ M.states ≤ b ∧ b ≠ U.start ∧ Ed N (a - M.states) (b - M.states)) := fun a b hab => by
    obtain ⟨c, hc, rfl⟩ := hab
    obtain ⟨h1, rfl, h3⟩ := mem_runA.1 hc
    rcases (h.mem c).1 h1 with hc | ⟨d, hd, rfl⟩ | ⟨d, hd, hs, rfl⟩ | ⟨d, hd, hs, rfl⟩
    · obtain ⟨q1, q2, _⟩ := hM.arcs c hc
      exact .inr (.inl ⟨q1.2, q2.2, c, mem_runA.2 ⟨hc, rfl, h3⟩, rfl⟩)
    · obtain ⟨q1, q2, _⟩ := hN.arcs d hd
      have r1 := q1.1
      have r2 := q1.2
      have r3 := q2.1
      have r4 := q2.2
      refine .inr (.inr ⟨by show M.states ≤ d.frm + M.states; omega, by show d.frm + M.states ≠ U.start; omega, by show M.states ≤ d.to + M.states; omega, by show d.to + M.states ≠ U.start; omega, d, mem_runA.2 ⟨hd, by show d.frm = d.frm + M.states - M.states; omega, h3⟩, by show d.to = d.to + M.states - M.states; omega⟩)
    · obtain ⟨_, q2, _⟩ := hM.arcs d hd
      have := q2.2
      exact .inl ⟨rfl, by show d.to ≠ U.start; omega⟩
    · obtain ⟨_, q2, _⟩ := hN.arcs d hd
      have := q2.2
      exact .inl ⟨rfl, by show d.to + M.states ≠ U.start; omega⟩
  have way : ∀ a b, Way (Ed U) a b → (a = U.start ∧ b ≠ U.start) ∨ (a < M.states ∧ b < M.states ∧ Way (Ed M) a b) ∨ (M.states ≤ a ∧ a ≠ U.start ∧ M.states ≤ b ∧ b ≠ U.start ∧ Way (Ed N) (a - M.states) (b - M.states)) := fun a b hab => by
    induction hab with
    | one h1 =>
      rcases one _ _ h1 with q | ⟨q1, q2, q3⟩ | ⟨q1, q2, q3, q4, q5⟩
      · exact .inl q
      · exact .inr (.inl ⟨q1, q2, .one q3⟩)
      · exact .inr (.inr ⟨q1, q2, q3, q4, .one q5⟩)
    | more _ h1 ih =>
      rcases ih with ⟨q1, q2⟩ | ⟨q1, q2, q3⟩ | ⟨q1, q2, q3, q4, q5⟩ <;> rcases one _ _ h1 with ⟨r1, r2⟩ | ⟨r1, r2, r3⟩ | ⟨r1, r2, r3, r4, r5⟩
      · exact .inl ⟨q1, r2⟩
      · exact .inl ⟨q1, by omega⟩
      · exact .inl ⟨q1, r4⟩
      · omega
      · exact .inr (.inl ⟨q1, r2, q3.more r3⟩)
      · omega
      · exact absurd r1 q4
      · omega
      · exact .inr (.inr ⟨q1, q2, r3, r4, q5.more r5⟩)
  obtain ⟨s, hs⟩ := hc
  rcases way s s hs with ⟨q1, q2⟩ | ⟨_, _, q⟩ | ⟨_, _, _, _, q⟩
  · exact absurd q1 q2
  · exact .inl ⟨s, q⟩
  · exact .inr ⟨_, q⟩
/-- Where the union has few places, so has each of both machines. -/
theorem UnionM.fewM (h : UnionM M N U) (hM : ValidM M) (hN : ValidM N) {l : List UInt8} (hf : FewPl (Reach U l)) : FewPl (Reach M l) := by
  obtain ⟨ks, hk, hm⟩ := hf
  have hv : ∀ a ∈ U.arcs, SymOk a.inp := fun a ha => (h.arcOk hM hN a ha).2.2.1
  have h2 := h.start
  have n1 := hN.one
  refine ⟨ks.map (fun p => if p.st = U.start then ⟨M.start, p.tx⟩ else p), by rw [List.length_map]; exact hk, fun p hp => ?_⟩
  have hw := reach_walk l p hp
  obtain ⟨st, tx⟩ := p
  rcases h.walkM hw with ⟨e1, rfl, e3⟩ | w
  · have hr := hm ⟨U.start, ⟨#[]⟩⟩ (by rw [Reach_nil]; exact .base rfl)
    refine List.mem_map.2 ⟨_, hr, ?_⟩
    rw [if_pos rfl]
    simp only [Plc.mk.injEq]
    exact ⟨e1.symm, bl_inj (by rw [show bl (⟨#[]⟩ : ByteArray) = [] from rfl]; exact e3.symm)⟩
  · have hr := hm _ (walk_reach hv w)
    refine List.mem_map.2 ⟨_, hr, ?_⟩
    have hst : st ≠ U.start := by
      rcases walk_end hw with e | ⟨a, ha, e⟩
      · have := hM.start.2; simp only at e; omega
      · have := (hM.arcs a ha).2.1.2; simp only at e; omega
    rw [if_neg hst]
    simp only [Plc.mk.injEq, true_and]
    exact bl_inj (by simp [bl])
where
  walk_end {l : List Arc} {s t : Int} {x y : List UInt8} (k : Walk l s x y t) : t = s ∨ ∃ a ∈ l, t = a.to := by
    cases k with
    | nil => exact .inl rfl
    | snoc _ ha => exact .inr ⟨_, ha, rfl⟩
theorem UnionM.fewN (h : UnionM M N U) (hM : ValidM M) (hN : ValidM N) {l : List UInt8} (hf : FewPl (Reach U l)) : FewPl (Reach N l) := by
  obtain ⟨ks, hk, hm⟩ := hf
  have hv : ∀ a ∈ U.arcs, SymOk a.inp := fun a ha => (h.arcOk hM hN a ha).2.2.1
  have h2 := h.start
  have n1 := hN.one
  refine ⟨ks.map (fun p => if p.st = U.start then ⟨N.start, p.tx⟩ else ⟨p.st - M.states, p.tx⟩), by rw [List.length_map]; exact hk, fun p hp => ?_⟩
  have hw := reach_walk l p hp
  obtain ⟨st, tx⟩ := p
  rcases h.walkN hw with ⟨e1, rfl, e3⟩ | w
  · have hr := hm ⟨U.start, ⟨#[]⟩⟩ (by rw [Reach_nil]; exact .base rfl)
    refine List.mem_map.2 ⟨_, hr, ?_⟩
    rw [if_pos rfl]
    simp only [Plc.mk.injEq]
    exact ⟨e1.symm, bl_inj (by rw [show bl (⟨#[]⟩ : ByteArray) = [] from rfl]; exact e3.symm)⟩
  · have hr := hm _ (walk_reach hv w)
    refine List.mem_map.2 ⟨_, hr, ?_⟩
    have hst : st + M.states ≠ U.start := by
      rcases UnionM.fewM.walk_end hw with e | ⟨a, ha, e⟩
      · have := hN.start.2; simp only at e; omega
      · have := (hN.arcs a ha).2.1.2; simp only at e; omega
    rw [if_neg hst]
    simp only [Plc.mk.injEq]
    exact ⟨by omega, bl_inj (by simp [bl])⟩
end
end Go.Proofs.YtgaldlecnfekaaaGreatDoor
