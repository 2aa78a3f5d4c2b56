/- The library's sort at compile's arcs. -/
import Derived.Test.YtielbaaaipkbdaaGreatDoorC5
import Derived.Test.YtielbaaaipkbdaaGreatDoorSort
namespace Go.Proofs.YtielbaaaipkbdaaGreatDoor
open Go.RowKit Go.Shelf Go.Lib Go.Sort Classical

instance : Inhabited Arc := ⟨⟨0, 0, 0, 0⟩⟩
theorem flat_at (l : List Arc) (t : Nat) (h : t < l.length * 4) : (flat l)[t]? = some ((l.toArray[t / 4]!).cells[t % 4]!) := by
  induction l generalizing t with
  | nil => simp at h
  | cons a l ih =>
    rw [flat_cons]
    rcases t with _ | _ | _ | _ | t
    · rfl
    · rfl
    · rfl
    · rfl
    · have h1 : (t + 1 + 1 + 1 + 1) / 4 = t / 4 + 1 := by omega
      have h2 : (t + 1 + 1 + 1 + 1) % 4 = t % 4 := by omega
      have := ih t (by simp at h; omega)
      rw [h1, h2]
      simpa using this
theorem flatK_arcs (l : List Arc) : flatK Arc.cells 4 l.toArray = (flat l).toArray := by
  refine ext_get! (by simp [flat_length]) (fun t ht => ?_)
  have ht' : t < l.length * 4 := by simpa using ht
  rw [get_flatK _ _ _ t (by simpa using ht')]
  have := flat_at l t ht'
  rw [getElem!_pos (flat l).toArray t (by simp [flat_length]; exact ht')]
  obtain ⟨h1, h2⟩ := List.getElem?_eq_some_iff.1 this
  simpa using h2.symm

theorem swoA : SWO (ltOf cmpA) where
  irrefl x := by unfold ltOf; rw [decide_eq_false_iff_not, cmpA_lt]; exact Arc.lt_irrefl x
  trans x y z h1 h2 := by
    unfold ltOf at *
    rw [decide_eq_true_iff, cmpA_lt] at *
    exact Arc.lt_trans h1 h2
  ntrans x y z h1 h2 := by
    unfold ltOf at *
    rw [decide_eq_false_iff_not, cmpA_lt] at *
    unfold Arc.lt at *; omega
theorem totA (x y : Arc) (h1 : ltOf cmpA x y = false) (h2 : ltOf cmpA y x = false) : x = y := by
  unfold ltOf at *
  rw [decide_eq_false_iff_not, cmpA_lt] at h1 h2
  exact Arc.eq_of_not_lt h1 h2

theorem cmpLaysA (blk off size : Nat) (w : World) : CmpLays Tryz.prog 32 #[] Arc.cells 4 cmpA blk off size w := fun m os dk _ x y => by
  refine (less_any x y _).mono ?_
  rintro e w' ⟨rfl, o1, o2, o3, rfl⟩
  refine ⟨rfl, 1, #[o1, o2, o3], ?_⟩
  generalize sortWorldK Arc.cells 4 w blk off m dk os = W
  rw [show (W.alloc o1).alloc o2 = grow W #[o1, o2] from by rw [alloc_eq_grow, alloc_eq_grow, grow_grow]; rfl]
  rw [show (grow W #[o1, o2]).drewN 1 = grow (W.drewN 1) #[o1, o2] from rfl, alloc_eq_grow, grow_grow]
  rfl

theorem sorted_arcs : SortArcs := by
  intro l g c base w hle hown
  have hown0 := hown
  obtain ⟨hl, h1⟩ := hown
  rcases h1 with ⟨e, _⟩ | ⟨g', cap, cur, e, hb, hh, hn, hm, hs, ht⟩
  · cases e
  · injection e with e1 _ e3
    injection e1 with e1
    injection e1 with e1
    subst e1; subst e3
    have hlt := (hown0.lt g rfl).2
    have eg : ∀ args w, (callFunc 32 args).run Tryz.prog w = .ok (.enter 32 args) w := enters_of Tryz.func32 (by kernel_rfl) rfl
    have hH : HoldsK Arc.cells 4 w g 0 l.toArray := by
      unfold HoldsK
      rw [flatK_arcs]
      intro j hj
      have hj' : j < l.length * 4 := by simpa [flat_length] using hj
      refine ⟨?_, by simp [World.frozen?, hh]⟩
      have e1 : (cur.toList.take (l.length * 4))[j]? = (flat l)[j]? := by rw [ht]
      rw [List.getElem?_take, if_pos hj', Array.getElem?_toList] at e1
      simp only [World.cell?, hh, Nat.zero_add]
      simp only [Option.isSome_none, Bool.false_eq_true, if_false]
      rw [e1, List.getElem?_eq_getElem (by simpa using hj)]
      rw [getElem!_pos (flat l).toArray j hj]
      simp
    have hq := AnyQ.slices_SortFunc_total Tryz.sortArc 4 Tryz.isAgg58 Tryz.sizeOf58 Arc.cells (fun _ => rfl) (fun x v hv => by simp [Arc.cells] at hv; rcases hv with rfl | rfl | rfl | rfl <;> rfl) cmpA swoA
      32 #[] g 0 c l.toArray w eg (cmpLaysA g 0 _ w) hH hlt (by simp; omega) totA
    refine Calls.mono (show Calls Tryz.prog 31 _ _ _ from hq) ?_
    rintro e w' ⟨rfl, n, os, hw⟩
    obtain ⟨S, hS⟩ : ∃ S, S = l.mergeSort fun x y => !(ltOf cmpA) y x := ⟨_, rfl⟩
    have hp : S.Perm l := by rw [hS]; exact List.mergeSort_perm _ _
    have hsl : S.length = l.length := hp.length_eq
    rw [← hS] at hw
    unfold sortWorldK putRowK at hw
    rw [flatK_arcs] at hw
    refine ⟨rfl, S, hsl, fun y => hp.mem_iff, fun hnd => ?_, ?_, ?_⟩
    · have h1 : S.Pairwise fun a b => !(ltOf cmpA) b a := by
        rw [hS]
        refine List.pairwise_mergeSort (fun a b c h1 h2 => ?_) (fun a b => ?_) l
        · simp only [Bool.not_eq_true'] at *
          exact swoA.ntrans c b a h2 h1
        · cases h : ltOf cmpA b a with
          | false => rfl
          | true =>
            cases h' : ltOf cmpA a b with
            | false => rfl
            | true =>
              have := swoA.trans _ _ _ h h'
              rw [swoA.irrefl] at this; cases this
      refine (h1.and (hp.nodup_iff.2 hnd)).imp (fun {a b} hab => ?_)
      obtain ⟨h2, h3⟩ := hab
      have h4 : ltOf cmpA b a = false := by simpa using h2
      by_cases h5 : a.lt b
      · exact h5
      · refine absurd (totA a b ?_ h4) h3
        unfold ltOf; rw [decide_eq_false_iff_not, cmpA_lt]; exact h5
    · subst hw
      refine ⟨by rw [flat_length, hsl], .inr ⟨g, c, putCells id 0 (flat S).toArray cur, rfl, hb, ?_, hn, hm, by simpa [putCells] using hs, ?_⟩⟩
      · simp only [grow]
        rw [Array.getElem?_append_left (by simp [putRow, mapBlock, Sort.ahead]; exact hlt)]
        simp [putRow, mapBlock, Sort.ahead, Array.getElem?_modify, hh, onCells]
      · apply List.ext_getElem?
        intro j
        rw [List.getElem?_take, Array.getElem?_toList]
        by_cases hj : j < l.length * 4
        · have hjc : j < cur.size := by rw [hs]; omega
          have hjf : j < (flat S).length := by rw [flat_length, hsl]; exact hj
          simp only [if_pos hj, putCells, Array.getElem?_mapIdx, Array.getElem?_eq_getElem hjc, Option.map_some]
          rw [if_pos (by simp; exact hjf), List.getElem?_eq_getElem hjf]
          simp [getElem!_pos, hjf]
        · rw [if_neg hj, List.getElem?_eq_none (by rw [flat_length, hsl]; omega)]
    · subst hw
      refine ⟨rfl, rfl, rfl, by simp [grow, putRow, mapBlock, Sort.ahead], fun k hk hne => ?_⟩
      simp only [grow]
      rw [Array.getElem?_append_left (by simp [putRow, mapBlock, Sort.ahead]; exact hk)]
      simp [putRow, mapBlock, Sort.ahead, Array.getElem?_modify, show g ≠ k from fun e => hne e.symm]

theorem Compile_prog (R : Ruls) (A B : Alph) (v va vb : Value) (w : World) (h : RulsAt w w.heap.size v R) (ha : AlphAt w w.heap.size va A) (hb : AlphAt w w.heap.size vb B) :
    Calls Tryz.prog 12 #[v, va, vb] w (CompilePost (Valid11 R A B) R A w) := Compile_any sorted_arcs R A B v va vb w h ha hb
end Go.Proofs.YtielbaaaipkbdaaGreatDoor
