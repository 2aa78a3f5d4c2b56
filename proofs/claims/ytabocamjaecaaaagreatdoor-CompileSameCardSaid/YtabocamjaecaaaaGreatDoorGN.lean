/- N1 · N2 · N3 -/
import Derived.Test.YtabocamjaecaaaaGreatDoorGF
import Derived.Test.YtabocamjaecaaaaGreatDoorGX
import Derived.Test.YtabocamjaecaaaaGreatDoorW13b
import Derived.Test.YtabocamjaecaaaaGreatDoorGP
import Derived.Test.YtabocamjaecaaaaGreatDoorH1
/- Walks: few and has, of the laws on compiled rules. -/
namespace Go.Proofs.YtabocamjaecaaaaGreatDoor
open Go.RowKit Classical

/-- Few rules, and a short word. -/
def FewW (R : Ruls) (A B : Alph) (x : ByteArray) : Prop := Few13 R A B 8 ∧ x.size ≤ 16

set_option maxRecDepth 100000 in
set_option maxHeartbeats 2000000 in
theorem few15_any (R : Ruls) (A B : Alph) (x : ByteArray) (hx : x.size ≤ maxLen) (v va vb : Value) (w : World) (h : RulsAt w w.heap.size v R) (ha : AlphAt w w.heap.size va A) (hb : AlphAt w w.heap.size vb B) :
  Calls Tryz.prog 7 #[v, va, vb, .string x] w fun e w' => e = .returned (.bool (decide (FewW R A B x))) ∧ Below w.heap.size w w' := by
 unfold maxLen at hx
 have hR := h
 have hA := ha
 have hB := hb
 obtain ⟨la, lc, rfl, hs1, hs2, hln, hlr, hl⟩ := h
 obtain ⟨fa, fc, ga, gc, rfl, hn, hl1, hs3, hls, hfl, hfs⟩ := ha
 obtain ⟨fa2, fc2, ga2, gc2, rfl, hn2, hl2, hs4, hls2, hfl2, hfs2⟩ := hb
 go_enter Tryz.func7, Tryz.ntmps7
 go_wp2_with fail
 generalize hW0 : (((w.alloc _).alloc _).alloc _) = W0
 have hw0 : Below w.heap.size w W0 := by rw [← hW0]; exact (((Below.refl _ _).alloc (Nat.le_refl _) _).alloc (by simp) _).alloc (by simp; omega) _
 clear hW0 hs1 hs2 hln hlr hl hn hl1 hs3 hls hfl hfs hn2 hl2 hs4 hls2 hfl2 hfs2
 have h1 := (hR.below hw0 (Nat.le_refl _)).more hw0.size
 have h2 := (hA.below hw0 (Nat.le_refl _)).more hw0.size
 have h3 := (hB.below hw0 (Nat.le_refl _)).more hw0.size
 refine (few13_any R A B 8 _ _ _ W0 h1 h2 h3).mono ?_
 rintro e w1 ⟨rfl, hb1⟩
 have hbF := hw0.trans (hb1.mono hw0.size)
 clear h1 h2 h3 hR hA hB hw0 hb1
 by_cases hf : Few13 R A B 8
 ·rw [decide_eq_true hf]
  have Hf := Lib.hid hf
  clear hf
  by_cases hs : x.size ≤ 16
  ·have d : decide ((x.size : Int) ≤ 16) = true := by simp; omega
   have Hs := Lib.hid hs
   clear hs
   go_wp2
   go_ret
   exact ⟨ret_yes ⟨Hf.out, Hs.out⟩, hbF⟩
  ·have d : decide ((x.size : Int) ≤ 16) = false := by simp; omega
   have Hs := Lib.hid hs
   clear hs
   go_wp2
   go_ret
   exact ⟨ret_no fun h => Hs.out h.2, hbF⟩
 ·rw [decide_eq_false hf]
  have Hf := Lib.hid hf
  clear hf
  go_wp2
  go_ret
  exact ⟨ret_no fun h => Hf.out h.1, hbF⟩

end Go.Proofs.YtabocamjaecaaaaGreatDoor

/- Plain words: the machine of all rules but the last one leads where that of all rules leads. No program in sight. -/
namespace Go.Proofs.YtabocamjaecaaaaGreatDoor
open Go Classical

def Arc.mapS (f : Int → Int) (a : Arc) : Arc := ⟨f a.frm, a.inp, a.out, f a.to⟩

theorem startsIn_mem {L : List (List UInt8)} {x : RulL} {s : Nat} : ∀ {a : List RulL} {t : List Nat}, s ∈ startsIn L x a t → s ∈ t
 | [], _, h => by simp [startsIn] at h
 | _ :: _, [], h => by simp [startsIn] at h
 | o' :: r, s' :: t, h => by
  simp only [startsIn] at h
  split at h
  ·rw [List.mem_cons] at h
   rcases h with rfl | h
   ·exact List.mem_cons_self ..
   ·exact List.mem_cons_of_mem _ (startsIn_mem h)
  ·exact List.mem_cons_of_mem _ (startsIn_mem h)
theorem statesFrom_ge : ∀ (l : List RulL) (k : Nat), k ≤ statesFrom k l
 | [], k => Nat.le_refl _
 | x :: r, k => by
  simp only [statesFrom]
  split
  ·exact statesFrom_ge r k
  ·exact Nat.le_trans (Nat.le_succ k) (statesFrom_ge r (k + 1))
theorem leads_lt : ∀ (l : List RulL) (k : Nat), 3 ≤ k → ∀ s ∈ leadsFrom k l, s < statesFrom k l
 | [], _, _, _, h => by simp [leadsFrom] at h
 | x :: r, k, hk, s, h => by
  simp only [leadsFrom, statesFrom] at h ⊢
  split
  ·rename_i hx
   rw [if_pos hx, List.mem_cons] at h
   rcases h with rfl | h
   ·have := statesFrom_ge r k
    split <;> omega
   ·exact leads_lt r k hk s h
  ·rename_i hx
   rw [if_neg hx, List.mem_cons] at h
   rcases h with rfl | h
   ·exact statesFrom_ge r (s + 1)
   ·exact leads_lt r (k + 1) (by omega) s h

/-- A machine whose arcs, with other numbers of the states, are another one's. -/
structure Into (N M : Mach) (f : Int → Int) : Prop where
 start : f N.start = M.start
 arcs : ∀ y ∈ N.arcs, y.mapS f ∈ M.arcs
 final : ∀ s ∈ N.final, f s ∈ M.final
def Plc.mapS (f : Int → Int) (p : Plc) : Plc := ⟨f p.st, p.tx⟩
theorem Into.goes {N M : Mach} {f : Int → Int} (h : Into N M f) {c : Int} {p q : Plc} (hg : Goes N c p q) : Goes M c (p.mapS f) (q.mapS f) := by
 obtain ⟨a, ha, e1, e2, rfl⟩ := hg
 exact ⟨a.mapS f, h.arcs a ha, by simp [Arc.mapS, Plc.mapS, e1], e2, rfl⟩
theorem Into.cl {N M : Mach} {f : Int → Int} (h : Into N M f) {S T : Plc → Prop} (hS : ∀ p, S p → T (p.mapS f)) {p : Plc} (hp : Cl N S p) : Cl M T (p.mapS f) := by
 induction hp with
 | base h0 => exact .base (hS _ h0)
 | more _ hg ih => exact .more ih (h.goes hg)
theorem Into.reach {N M : Mach} {f : Int → Int} (h : Into N M f) (k : Nat) : ∀ (l : List UInt8), l.length = k → ∀ p, Reach N l p → Reach M l (p.mapS f) := by
 induction k with
 | zero =>
  intro l hl p hp
  obtain rfl := List.length_eq_zero_iff.1 hl
  rw [Reach_nil] at hp ⊢
  exact h.cl (fun q hq => by subst hq; simp [Plc.mapS, h.start]) hp
 | succ k ih =>
  intro l hl p hp
  have hne : l ≠ [] := by intro e; subst e; simp at hl
  obtain ⟨l', b, rfl⟩ : ∃ l' b, l = l' ++ [b] := ⟨l.dropLast, l.getLast hne, (List.dropLast_concat_getLast hne).symm⟩
  by_cases hb : b = 0
  ·subst hb
   unfold Reach at hp
   rw [List.foldl_append] at hp
   simp at hp
  ·rw [Reach_snoc _ _ _ hb] at hp ⊢
   have hl' : l'.length = k := by simpa using hl
   refine h.cl (fun q hq => ?_) hp
   unfold Setout at hq ⊢
   split
   ·rename_i e; rw [if_pos e] at hq; exact ih l' hl' q hq
   ·rename_i e; rw [if_neg e] at hq
    obtain ⟨q', h1, h2⟩ := hq
    exact ⟨_, ih l' hl' q' h1, h.goes h2⟩
theorem Into.result {N M : Mach} {f : Int → Int} (h : Into N M f) {x : List UInt8} {t : ByteArray} (hr : Result N x t) : Result M x t := by
 obtain ⟨h0, s, hs, hp⟩ := hr
 exact ⟨h0, f s, h.final s hs, h.reach _ x rfl _ hp⟩

end Go.Proofs.YtabocamjaecaaaaGreatDoor

/- Walk: the law CompileMore. -/
namespace Go.Proofs.YtabocamjaecaaaaGreatDoor
open Go.RowKit Classical

/-- All rules but the last one. -/
def Ruls.less (R : Ruls) : Ruls := ⟨R.src, R.dst, R.list.dropLast⟩
end Go.Proofs.YtabocamjaecaaaaGreatDoor
