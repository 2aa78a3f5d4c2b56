/- The library's sort of arcs, at any order of theirs. -/
import Derived.Test.YtabocamjaecaaaaGreatDoorGX
import Derived.Test.YtabocamjaecaaaaGreatDoorGT
import Derived.Test.YtabocamjaecaaaaGreatDoorGK
import Derived.Test.YtabocamjaecaaaaGreatDoorSort
import Derived.Test.YtabocamjaecaaaaGreatDoorVC
namespace Go.Proofs.YtabocamjaecaaaaGreatDoor
open Go.RowKit Go.Shelf Go.Lib Go.Sort Classical

/-- The order of two arcs as a number. -/
def cmpA (a b : Arc) : Int := orI [Lib.compareInt a.frm b.frm, Lib.compareInt a.inp b.inp, Lib.compareInt a.out b.out, Lib.compareInt a.to b.to]
theorem cmpI_cases (x y : Int) : (x < y ∧ Lib.compareInt x y = -1) ∨ (x = y ∧ Lib.compareInt x y = 0) ∨ (y < x ∧ Lib.compareInt x y = 1) := by
 unfold Lib.compareInt
 by_cases h1 : x < y
 ·simp [h1]
 ·by_cases h2 : y < x
  ·simp [h1, h2]
  ·right; left; simp [h1, h2]; omega
theorem cmpA_lt (a b : Arc) : cmpA a b < 0 ↔ a.lt b := by
 unfold cmpA Arc.lt orI orI orI orI orI
 rcases cmpI_cases a.frm b.frm with ⟨h1, e1⟩ | ⟨h1, e1⟩ | ⟨h1, e1⟩ <;> rw [e1]
 ·simp; omega
 ·rcases cmpI_cases a.inp b.inp with ⟨h2, e2⟩ | ⟨h2, e2⟩ | ⟨h2, e2⟩ <;> rw [e2]
  ·simp; omega
  ·rcases cmpI_cases a.out b.out with ⟨h3, e3⟩ | ⟨h3, e3⟩ | ⟨h3, e3⟩ <;> rw [e3]
   ·simp; omega
   ·rcases cmpI_cases a.to b.to with ⟨h4, e4⟩ | ⟨h4, e4⟩ | ⟨h4, e4⟩ <;> rw [e4] <;> simp <;> omega
   ·simp; omega
  ·simp; omega
 ·simp; omega

section
variable {α : Type}
theorem flatK_gen [Inhabited α] (f : α → Arc) (l : List α) : flatK (fun x => (f x).cells) 4 l.toArray = (flat (l.map f)).toArray := by
 refine ext_get! (by simp [flat_length]) (fun t ht => ?_)
 have ht' : t < l.length * 4 := by simpa using ht
 rw [get_flatK _ _ _ t (by simpa using ht')]
 have := flat_at (l.map f) t (by simpa using ht')
 rw [getElem!_pos (flat (l.map f)).toArray t (by simp [flat_length]; exact ht')]
 obtain ⟨h1, h2⟩ := List.getElem?_eq_some_iff.1 this
 have h4 : t / 4 < l.length := by omega
 have h3 : (l.map f).toArray[t / 4]! = f (l.toArray[t / 4]!) := by
  rw [getElem!_pos _ _ (by simpa using h4), getElem!_pos _ _ (by simpa using h4)]
  simp
 rw [h3] at h2
 simpa using h2.symm
theorem swo_gen (f : α → Arc) (cmp : α → α → Int) (hlt : ∀ x y, cmp x y < 0 ↔ (f x).lt (f y)) : SWO (ltOf cmp) where
 irrefl x := by unfold ltOf; rw [decide_eq_false_iff_not, hlt]; exact Arc.lt_irrefl _
 trans x y z h1 h2 := by
  unfold ltOf at *
  rw [decide_eq_true_iff, hlt] at *
  exact Arc.lt_trans h1 h2
 ntrans x y z h1 h2 := by
  unfold ltOf at *
  rw [decide_eq_false_iff_not, hlt] at *
  unfold Arc.lt at *; omega
theorem tot_gen (f : α → Arc) (cmp : α → α → Int) (hlt : ∀ x y, cmp x y < 0 ↔ (f x).lt (f y)) (hinj : ∀ x y, f x = f y → x = y) (x y : α) (h1 : ltOf cmp x y = false) (h2 : ltOf cmp y x = false) : x = y := by
 unfold ltOf at *
 rw [decide_eq_false_iff_not, hlt] at h1 h2
 exact hinj _ _ (Arc.eq_of_not_lt h1 h2)

theorem sorted_gen [Inhabited α] (f : α → Arc) (cmp : α → α → Int) (hlt : ∀ x y, cmp x y < 0 ↔ (f x).lt (f y)) (hinj : ∀ x y, f x = f y → x = y) (fn : FuncId) (eg : ∀ args w, (callFunc fn args).run Tryz.prog w = .ok (.enter fn args) w) (hcmp : ∀ (blk off size : Nat) (w : World), CmpLays Tryz.prog fn #[] (fun x => (f x).cells) 4 cmp blk off size w)
  (l : List α) (g c base : Nat) (w : World) (hle : l.length ≤ 1000000000000000) (hown : w.ownsRow base 49 4 (.slice (some ⟨g, 0, none⟩) l.length c) l.length (flat (l.map f))) :
  Calls Tryz.prog 20 #[.slice (some ⟨g, 0, none⟩) l.length c, .func (.func fn) #[] #[]] w fun e w' =>
   e = .returned (.tuple #[]) ∧ ∃ S : List α, S.length = l.length ∧ S.Perm l ∧ (S.map f).Pairwise (fun a b => ¬ b.lt a) ∧ w'.ownsRow base 49 4 (.slice (some ⟨g, 0, none⟩) l.length c) l.length (flat (S.map f)) ∧ Chg (· = g) w w' := by
 have hown0 := hown
 obtain ⟨hl, h1⟩ := hown
 rcases h1 with ⟨e, _⟩ | ⟨g', cap, cur, e, hb, hh, hn, hm, hs, ht⟩
 ·cases e
 ·injection e with e1 _ e3
  injection e1 with e1
  injection e1 with e1
  subst e1; subst e3
  have hlt' := (hown0.lt g rfl).2
  have hH : HoldsK (fun x => (f x).cells) 4 w g 0 l.toArray := by
   unfold HoldsK
   rw [flatK_gen]
   intro j hj
   have hj' : j < l.length * 4 := by simpa [flat_length] using hj
   refine ⟨?_, by simp [World.frozen?, hh]⟩
   have e1 : (cur.toList.take (l.length * 4))[j]? = (flat (l.map f))[j]? := by rw [ht]
   rw [List.getElem?_take, if_pos hj', Array.getElem?_toList] at e1
   simp only [World.cell?, hh, Nat.zero_add]
   simp only [Option.isSome_none, Bool.false_eq_true, if_false]
   rw [e1, List.getElem?_eq_getElem (by simpa using hj)]
   rw [getElem!_pos (flat (l.map f)).toArray j hj]
   simp
  have hq := AnyQ.slices_SortFunc_total Tryz.sortArc 4 Tryz.isAgg49 Tryz.sizeOf49 (fun x => (f x).cells) (fun _ => rfl) (fun x v hv => by simp [Arc.cells] at hv; rcases hv with rfl | rfl | rfl | rfl <;> rfl) cmp (swo_gen f cmp hlt)
   fn #[] g 0 c l.toArray w eg (hcmp g 0 _ w) hH hlt' (by simp; omega) (tot_gen f cmp hlt hinj)
  refine Calls.mono (show Calls Tryz.prog 20 _ _ _ from hq) ?_
  rintro e w' ⟨rfl, n, os, hw⟩
  obtain ⟨S, hS⟩ : ∃ S, S = l.mergeSort fun x y => !(ltOf cmp) y x := ⟨_, rfl⟩
  have hp : S.Perm l := by rw [hS]; exact List.mergeSort_perm _ _
  have hsl : S.length = l.length := hp.length_eq
  rw [← hS] at hw
  unfold sortWorldK putRowK at hw
  rw [flatK_gen] at hw
  have O := swo_gen f cmp hlt
  refine ⟨rfl, S, hsl, hp, ?_, ?_, ?_⟩
  ·have h1 : S.Pairwise fun a b => !(ltOf cmp) b a := by
    rw [hS]
    refine List.pairwise_mergeSort (fun a b c h1 h2 => ?_) (fun a b => ?_) l
    ·simp only [Bool.not_eq_true'] at *
     exact O.ntrans c b a h2 h1
    ·cases h : ltOf cmp b a with
     | false => rfl
     | true =>
      cases h' : ltOf cmp a b with
      | false => rfl
      | true =>
       have := O.trans _ _ _ h h'
       rw [O.irrefl] at this; cases this
   rw [List.pairwise_map]
   refine h1.imp (fun {a b} hab => ?_)
   have h4 : ltOf cmp b a = false := by simpa using hab
   unfold ltOf at h4
   rwa [decide_eq_false_iff_not, hlt] at h4
  ·subst hw
   refine ⟨by rw [flat_length, List.length_map, hsl], .inr ⟨g, c, putCells id 0 (flat (S.map f)).toArray cur, rfl, hb, ?_, hn, hm, by simpa [putCells] using hs, ?_⟩⟩
   ·simp only [grow]
    rw [Array.getElem?_append_left (by simp [putRow, mapBlock, Sort.ahead]; exact hlt')]
    simp [putRow, mapBlock, Sort.ahead, Array.getElem?_modify, hh, onCells]
   ·apply List.ext_getElem?
    intro j
    rw [List.getElem?_take, Array.getElem?_toList]
    by_cases hj : j < l.length * 4
    ·have hjc : j < cur.size := by rw [hs]; omega
     have hjf : j < (flat (S.map f)).length := by rw [flat_length, List.length_map, hsl]; exact hj
     simp only [if_pos hj, putCells, Array.getElem?_mapIdx, Array.getElem?_eq_getElem hjc, Option.map_some]
     rw [if_pos (by simp; exact hjf), List.getElem?_eq_getElem hjf]
     simp [getElem!_pos, hjf]
    ·rw [if_neg hj, List.getElem?_eq_none (by rw [flat_length, List.length_map, hsl]; omega)]
  ·subst hw
   refine ⟨rfl, rfl, rfl, by simp [grow, putRow, mapBlock, Sort.ahead], fun k hk hne => ?_⟩
   simp only [grow]
   rw [Array.getElem?_append_left (by simp [putRow, mapBlock, Sort.ahead]; exact hk)]
   simp [putRow, mapBlock, Sort.ahead, Array.getElem?_modify, show g ≠ k from fun e => hne e.symm]
end

theorem inc_of_sorted {S : List Arc} (h : S.Pairwise (fun a b => ¬ b.lt a)) (hn : S.Nodup) : Increasing S := by
 refine (h.and hn).imp (fun {a b} ⟨h1, h2⟩ => ?_)
 by_cases h5 : a.lt b
 ·exact h5
 ·exact absurd (Arc.eq_of_not_lt h5 h1) h2

/-- Arcs of machine's comparing. -/
abbrev SmallArc := {a : Arc // Small a}
instance : Inhabited SmallArc := ⟨⟨⟨0, 0, 0, 0⟩, by simp [Small]⟩⟩
end Go.Proofs.YtabocamjaecaaaaGreatDoor
