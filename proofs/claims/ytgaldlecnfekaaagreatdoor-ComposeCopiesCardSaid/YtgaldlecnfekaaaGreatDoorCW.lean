/- Plain words: how many pairs and arcs a composition of small machines has. No program in sight. -/
import Derived.Test.YtgaldlecnfekaaaGreatDoorCP
namespace Go.Proofs.YtgaldlecnfekaaaGreatDoor
open Go Classical

def PairOk (M N : Mach) (x : Int × Int) : Prop := StateOk M.states x.1 ∧ StateOk N.states x.2
theorem StepOf.pair {M N : Mach} (hM : ValidM M) (hN : ValidM N) {x : Int × Int} (hx : PairOk M N x) {s : PStep} (h : StepOf M.arcs N.arcs x s) : PairOk M N s.dst := by
  rcases h with ⟨a, ha, _, _, rfl⟩ | ⟨a, ha, b, hb, _, _, _, _, rfl⟩ | ⟨b, hb, _, _, rfl⟩
  · exact ⟨(hM.arcs a ha).2.1, hx.2⟩
  · exact ⟨(hM.arcs a ha).2.1, (hN.arcs b hb).2.1⟩
  · exact ⟨hx.1, (hN.arcs b hb).2.1⟩
theorem flatMap_len {α β : Type} (f : α → List β) (k : Nat) : ∀ l : List α, (∀ a ∈ l, (f a).length ≤ k) → (l.flatMap f).length ≤ l.length * k
  | [], _ => by simp
  | a :: l, h => by
    have h1 := h a (List.mem_cons_self ..)
    have h2 := flatMap_len f k l (fun b hb => h b (List.mem_cons_of_mem _ hb))
    rw [List.flatMap_cons, List.length_append, List.length_cons, Nat.add_mul]
    omega
theorem steps_len (m n : List Arc) (x : Int × Int) : (stepsL m n x).length ≤ m.length * (n.length + 1) + n.length := by
  unfold stepsL
  rw [List.length_append, List.length_map]
  have h1 := List.length_filter_le (fun b => decide (b.frm = x.2 ∧ b.inp = 0)) n
  have h2 := flatMap_len (fun a : Arc => if a.out = 0 then [(⟨a.inp, 0, (a.to, x.2)⟩ : PStep)] else (n.filter (fun b => decide (b.frm = x.2 ∧ b.inp = a.out))).map (fun b => ⟨a.inp, b.out, (a.to, b.to)⟩)) (n.length + 1) (m.filter (fun a => decide (a.frm = x.1))) (fun a _ => by
    split
    · simp
    · rw [List.length_map]
      exact Nat.le_trans (List.length_filter_le _ _) (Nat.le_succ _))
  have h3 := List.length_filter_le (fun a => decide (a.frm = x.1)) m
  have h4 := Nat.mul_le_mul_right (n.length + 1) h3
  omega
theorem steps_small {M N : Mach} (i : Nat) : ∀ (l : List PStep) (st : PSt), (∀ s ∈ l, PairOk M N s.dst) → (∀ x ∈ st.ord, PairOk M N x) →
    (∀ x ∈ (l.foldl (stepO i) st).ord, PairOk M N x) ∧ (l.foldl (stepO i) st).arcs.length = st.arcs.length + l.length ∧ st.ord.length ≤ (l.foldl (stepO i) st).ord.length
  | [], st, _, h => ⟨h, rfl, Nat.le_refl _⟩
  | s :: l, st, hl, h => by
    have h1 : ∀ x ∈ (stepO i st s).ord, PairOk M N x := fun x hx => by
      have hx' : x ∈ addO st.ord s.dst := hx
      unfold addO at hx'
      split at hx'
      · exact h x hx'
      · rcases List.mem_append.1 hx' with hx' | hx'
        · exact h x hx'
        · obtain rfl := List.mem_singleton.1 hx'
          exact hl s (List.mem_cons_self ..)
    obtain ⟨q1, q2, q3⟩ := steps_small i l (stepO i st s) (fun t ht => hl t (List.mem_cons_of_mem _ ht)) h1
    have hp : st.ord.length ≤ (stepO i st s).ord.length := (addO_prefix st.ord s.dst).length_le
    refine ⟨q1, ?_, Nat.le_trans hp q3⟩
    rw [List.foldl_cons, q2, List.length_cons]
    show (st.arcs ++ [_]).length + _ = _
    rw [List.length_append, List.length_cons, List.length_nil]
    omega
theorem run_small {M N : Mach} (hM : ValidM M) (hN : ValidM N) : ∀ (f i : Nat) (st : PSt), i ≤ st.ord.length → st.arcs.length ≤ i * (M.arcs.length * (N.arcs.length + 1) + N.arcs.length) → (∀ x ∈ st.ord, PairOk M N x) →
    (∀ x ∈ (runO M.arcs N.arcs f i st).ord, PairOk M N x) ∧ (runO M.arcs N.arcs f i st).arcs.length ≤ (runO M.arcs N.arcs f i st).ord.length * (M.arcs.length * (N.arcs.length + 1) + N.arcs.length)
  | 0, i, st, hi, ha, h => ⟨h, Nat.le_trans ha (Nat.mul_le_mul_right _ hi)⟩
  | f + 1, i, st, hi, ha, h => by
    unfold runO
    split
    · rename_i hlt
      have hx : st.ord[i]? = some st.ord[i] := List.getElem?_eq_getElem hlt
      have hr : rowO M.arcs N.arcs i st = (stepsL M.arcs N.arcs st.ord[i]).foldl (stepO i) st := by unfold rowO; rw [hx]
      have hok := h _ (List.getElem_mem hlt)
      obtain ⟨q1, q2, q3⟩ := steps_small (M := M) (N := N) i (stepsL M.arcs N.arcs st.ord[i]) st (fun s hs => (mem_stepsL.1 hs).pair hM hN hok) h
      have hl := steps_len M.arcs N.arcs st.ord[i]
      rw [hr]
      refine run_small hM hN f (i + 1) _ (by omega) ?_ q1
      rw [q2, Nat.add_mul]
      omega
    · exact ⟨h, Nat.le_trans ha (Nat.mul_le_mul_right _ hi)⟩
theorem pairs_few {M N : Mach} {a b : Nat} (ha : M.states ≤ a) (hb : N.states ≤ b) {l : List (Int × Int)} (hn : l.Nodup) (h : ∀ x ∈ l, PairOk M N x) : l.length ≤ a * b := by
  have := length_le_of_nodup (l := l) (m := (List.range a).flatMap (fun i : Nat => (List.range b).map (fun j : Nat => ((i : Int), (j : Int))))) hn (fun x hx => by
    obtain ⟨⟨p1, p2⟩, q1, q2⟩ := h x hx
    refine List.mem_flatMap.2 ⟨x.1.toNat, List.mem_range.2 (by omega), List.mem_map.2 ⟨x.2.toNat, List.mem_range.2 (by omega), ?_⟩⟩
    obtain ⟨x1, x2⟩ := x
    simp only [Prod.mk.injEq] at p1 p2 q1 q2 ⊢
    omega)
  have h2 := flatMap_len (fun i : Nat => (List.range b).map (fun j : Nat => ((i : Int), (j : Int)))) b (List.range a) (fun i _ => by simp)
  rw [List.length_range] at h2
  omega
where
  length_le_of_nodup {α : Type} {l m : List α} (hn : l.Nodup) (h : ∀ x ∈ l, x ∈ m) : l.length ≤ m.length := nodup_len' hn h
  nodup_len' {α : Type} {l m : List α} (hn : l.Nodup) (h : ∀ x ∈ l, x ∈ m) : l.length ≤ m.length := by
    induction l generalizing m with
    | nil => simp
    | cons x l ih =>
      obtain ⟨h1, h2⟩ := List.nodup_cons.1 hn
      have hx := h x (List.mem_cons_self ..)
      obtain ⟨s, t, rfl⟩ := List.append_of_mem hx
      have := ih (m := s ++ t) h2 (fun y hy => by
        have hy' := h y (List.mem_cons_of_mem _ hy)
        have hne : y ≠ x := fun e => h1 (e ▸ hy)
        simp only [List.mem_append, List.mem_cons] at hy' ⊢
        rcases hy' with q | q | q
        · exact .inl q
        · exact absurd q hne
        · exact .inr q)
      simp only [List.length_append, List.length_cons] at this ⊢
      omega
/-- A composition of small machines is small. -/
theorem compose_small {M N : Mach} (hM : ValidM M) (hN : ValidM N) {a b : Nat} (ha : M.states ≤ a) (hb : N.states ≤ b) : (composeO M N).ord.length ≤ a * b ∧
    (composeO M N).arcs.length ≤ (composeO M N).ord.length * (M.arcs.length * (N.arcs.length + 1) + N.arcs.length) := by
  obtain ⟨h1, h2⟩ := run_small hM hN 4000 0 ⟨[(M.start, N.start)], []⟩ (Nat.zero_le _) (by simp) (fun x hx => by
    obtain rfl := List.mem_singleton.1 hx
    exact ⟨hM.start, hN.start⟩)
  obtain ⟨k, _, _, h3, _⟩ := CmpInv.run 4000 0 ⟨[(M.start, N.start)], []⟩ (CmpInv.first M N)
  exact ⟨pairs_few ha hb h3.nodup h1, h2⟩
end Go.Proofs.YtgaldlecnfekaaaGreatDoor
