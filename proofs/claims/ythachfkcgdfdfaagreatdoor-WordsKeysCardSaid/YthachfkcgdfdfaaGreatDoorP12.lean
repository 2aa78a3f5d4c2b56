/- W13 · W13b · VS · K4 · V1 · DA -/
import Derived.Test.YthachfkcgdfdfaaGreatDoorP08
import Derived.Test.YthachfkcgdfdfaaGreatDoorP09
import Derived.Test.YthachfkcgdfdfaaGreatDoorP10
import Derived.Laws.MakeOwn
import Derived.Maps.AppendAt
import Derived.Deep.DeepCutAuto
import Derived.Deep.CutBlock
import Derived.Laws.OwnMore
import Derived.Test.YthachfkcgdfdfaaGreatDoorSort
import Derived.BigQuiet
import Derived.Deep.QuietTactic
import Derived.Deep.RegionHeld3
import Derived.Test.YthachfkcgdfdfaaGreatDoorShelf
import Derived.StillTailTactics
import Derived.Lib.SlicesCompact
import Derived.Lib.SliceRun
/- Walks of the reference's machine of rules (gazetteerref13): byteAt, begins. -/
namespace Go.Proofs.YthachfkcgdfdfaaGreatDoor
open Go.RowKit Classical

theorem wrap64_u8 (c : UInt8) : wrap64 (c.toNat : Int) = c.toNat := by
 have := c.toNat_lt
 unfold wrap64
 omega
theorem readGo_le (L : List (List UInt8)) : ∀ (f : Nat) (t : List UInt8) (o : Nat) (acc : List Int), (readGo L f t o acc).letters.length ≤ acc.length + f := by
 intro f
 induction f with
 | zero =>
  intro t o acc
  rw [readGo]
  repeat' split
  all_goals simp
 | succ f ih =>
  intro t o acc
  rw [readGo]
  split
  ·simp
  ·split
   ·simp
   ·refine Nat.le_trans (ih _ _ _) ?_
    simp; omega
theorem readL_le (L : List (List UInt8)) (t : List UInt8) : (readL L t).letters.length ≤ 24 := by
 unfold readL
 split
 ·simp
 ·simpa using readGo_le L 24 t 0 []

def Rul.l (r : Rul) : RulL := ⟨bl r.src, bl r.dst, bl r.nxt, r.fin⟩

end Go.Proofs.YthachfkcgdfdfaaGreatDoor
/- Walk of the reference's machine of rules (gazetteerref13.Compile). -/
namespace Go.Proofs.YthachfkcgdfdfaaGreatDoor
open Go.RowKit Classical

theorem run_make_rowN {P : Program} (t e : TypeId) (i : TypeInfo) (z : Value) (ht : P.underlying t = some (.slice e)) (hi : P.info? e = some i) (hz : i.zero = some z)
  (kl kc : IntKind) (n c : Nat) (hnc : n ≤ c) (hbytes : i.bytes * c ≤ 281474976710656) (h63 : c ≤ 9223372036854775807) (w : World) :
  (Instr.makeSlice t (.int kl (n : Int)) (.int kc (c : Int))).run P w = .ok (.slice (some ⟨w.heap.size, 0, none⟩) n c) (w.alloc (.cells (madeCells z.cells (c * i.size)) e)) := by
 have hb : (i.bytes : Int) * (c : Int) ≤ 281474976710656 := by
  have h : ((i.bytes * c : Nat) : Int) ≤ 281474976710656 := by omega
  rwa [Int.natCast_mul] at h
 have hr := run_make (P := P) w t e i z ht hi hz kl kc n c (by omega) (by omega) hb (by omega)
 simp only [Int.toNat_natCast] at hr
 exact hr

def natsV (l : List Nat) : List Value := l.map fun n : Nat => Value.int .i64 (n : Int)
theorem natsV_append (a b : List Nat) : natsV (a ++ b) = natsV a ++ natsV b := by simp [natsV]
theorem natsV_get (l : List Nat) (i : Nat) (n : Nat) (h : l[i]? = some n) : (natsV l)[i]? = some (.int .i64 (n : Int)) := by simp [natsV, h]
theorem natsV_set (T : List Nat) (n k v : Nat) (hT : T.length = k) (hk : k < n) : (natsV (T ++ List.replicate (n - k) 0)).set k (.int .i64 (v : Int)) = natsV (T ++ [v] ++ List.replicate (n - (k + 1)) 0) := by
 obtain ⟨m, hm⟩ : ∃ m, n - k = m + 1 := ⟨n - k - 1, by omega⟩
 have hm2 : n - (k + 1) = m := by omega
 subst hT
 rw [hm, hm2, natsV_append, List.replicate_succ, List.set_append_right _ _ (by simp [natsV])]
 simp [natsV]
theorem rl_take (l : List Rul) (k : Nat) (h : k < l.length) : (l.map Rul.l).take (k + 1) = (l.map Rul.l).take k ++ [l[k].l] := by
 rw [List.take_add_one]; simp [h]

theorem madeCells_one (z : Value) (n : Nat) : madeCells #[z] n = Array.replicate n z := by
 apply Array.ext
 ·simp [madeCells]
 ·intro i h1 h2
  simp [madeCells, Nat.mod_one]

theorem RowAt.set {w : World} {B : Nat} {a : Option Addr} {xs : List Value} (h : RowAt w B a xs) {p : Addr} (hne : ∀ b o, a = some ⟨b, o, none⟩ → b ≠ p.block) (u : Value) : RowAt (w.setCell p u) B a xs := fun hn => by
 obtain ⟨b, off, e, hb, hc⟩ := h hn
 exact ⟨b, off, e, hb, fun i x hi => (World.cell?_setCell_other w p ⟨b, off + i, none⟩ u (fun e2 => hne b off e (by rw [e2]))).trans (hc i x hi)⟩

theorem own_len {w : World} {base : Nat} {e : TypeId} {size n : Nat} {v : Value} {xs : List Value} (h : w.ownsRow base e size v n xs) : n ≤ maxLen := by
 rcases h.2 with ⟨_, rfl⟩ | ⟨g, cap, cur, _, _, _, h1, h2, _⟩
 ·exact Nat.zero_le _
 ·exact Nat.le_trans h1 h2
theorem readGo_acc (L : List (List UInt8)) : ∀ (f : Nat) (t : List UInt8) (o : Nat) (acc : List Int), (readGo L f t o acc).err = 0 → acc.length ≤ (readGo L f t o acc).letters.length := by
 intro f
 induction f with
 | zero =>
  intro t o acc h
  rw [readGo] at h ⊢
  split
  ·exact Nat.le_refl _
  ·rename_i ht
   rw [if_neg ht] at h
   split at h <;> simp at h
 | succ f ih =>
  intro t o acc h
  rw [readGo] at h ⊢
  split
  ·exact Nat.le_refl _
  ·rename_i ht
   rw [if_neg ht] at h
   split at h
   ·simp at h
   ·rename_i k hk
    have := ih _ _ _ h
    rw [List.length_append] at this
    simp at this ⊢
    omega
theorem readL_ne {L : List (List UInt8)} {t : List UInt8} (ht : t ≠ []) (h : (readL L t).err = 0) : (readL L t).letters ≠ [] := by
 rw [readL, if_neg ht] at h ⊢
 rw [readGo, if_neg ht] at h ⊢
 split at h
 ·simp at h
 ·rename_i k hk
  have := readGo_acc _ _ _ _ _ h
  intro e
  rw [e] at this
  simp at this

theorem rul_n {x : Rul} (h : x.ok) : x.l.n ≤ 9 ∧ 1 ≤ x.l.n := by
 have h1 := h.1.2
 have h2 := h.2.1.2
 unfold RulL.n
 rw [show x.l.src = bl x.src from rfl, show x.l.dst = bl x.dst from rfl, bl_length, bl_length]
 omega

structure CompileOf (R : Ruls) (A : Alph) (M : Mach) : Prop where
 states : M.states = compileStates (R.list.map Rul.l)
 start : M.start = 0
 final : M.final = [1, 2]
 inc : Increasing M.arcs
 mem : ∀ y, y ∈ M.arcs ↔ y ∈ compileArcs A.bls (R.list.map Rul.l)
def CompilePost (ok : Prop) (R : Ruls) (A : Alph) (w : World) (e : Ending) (w' : World) : Prop :=
 ∃ v M err, e = .returned (.tuple #[v, .int .i64 err]) ∧ MachAt w' w'.heap.size v M ∧ Below w.heap.size w w' ∧ (¬ ok → err = 1 ∧ M = ⟨0, 0, [], []⟩) ∧ (ok → err = 0 ∧ CompileOf R A M)

end Go.Proofs.YthachfkcgdfdfaaGreatDoor
/- The library's sort of arcs, at any order of theirs. -/
namespace Go.Proofs.YthachfkcgdfdfaaGreatDoor
open Go.RowKit Go.Shelf Go.Lib Go.Sort Classical

/-- The order of two arcs as a number. -/
def cmpA (a b : Arc) : Int := orI [Lib.compareInt a.frm b.frm, Lib.compareInt a.inp b.inp, Lib.compareInt a.out b.out, Lib.compareInt a.to b.to]
theorem cmpI_cases (x y : Int) : (x < y ∧ Lib.compareInt x y = -1) ∨ (x = y ∧ Lib.compareInt x y = 0) ∨ (y < x ∧ Lib.compareInt x y = 1) := by
 unfold Lib.compareInt
 by_cases h1 : x < y
 ·simp [h1]
 ·by_cases h2 : y < x
  ·simp [h1, h2]
  ·right; left; simp [h1, h2]; omega
theorem cmpA_lt (a b : Arc) : cmpA a b < 0 ↔ a.lt b := by
 unfold cmpA Arc.lt orI orI orI orI orI
 rcases cmpI_cases a.frm b.frm with ⟨h1, e1⟩ | ⟨h1, e1⟩ | ⟨h1, e1⟩ <;> rw [e1]
 ·simp; omega
 ·rcases cmpI_cases a.inp b.inp with ⟨h2, e2⟩ | ⟨h2, e2⟩ | ⟨h2, e2⟩ <;> rw [e2]
  ·simp; omega
  ·rcases cmpI_cases a.out b.out with ⟨h3, e3⟩ | ⟨h3, e3⟩ | ⟨h3, e3⟩ <;> rw [e3]
   ·simp; omega
   ·rcases cmpI_cases a.to b.to with ⟨h4, e4⟩ | ⟨h4, e4⟩ | ⟨h4, e4⟩ <;> rw [e4] <;> simp <;> omega
   ·simp; omega
  ·simp; omega
 ·simp; omega

section
variable {α : Type}
theorem flatK_gen [Inhabited α] (f : α → Arc) (l : List α) : flatK (fun x => (f x).cells) 4 l.toArray = (flat (l.map f)).toArray := by
 refine ext_get! (by simp [flat_length]) (fun t ht => ?_)
 have ht' : t < l.length * 4 := by simpa using ht
 rw [get_flatK _ _ _ t (by simpa using ht')]
 have := flat_at (l.map f) t (by simpa using ht')
 rw [getElem!_pos (flat (l.map f)).toArray t (by simp [flat_length]; exact ht')]
 obtain ⟨h1, h2⟩ := List.getElem?_eq_some_iff.1 this
 have h4 : t / 4 < l.length := by omega
 have h3 : (l.map f).toArray[t / 4]! = f (l.toArray[t / 4]!) := by
  rw [getElem!_pos _ _ (by simpa using h4), getElem!_pos _ _ (by simpa using h4)]
  simp
 rw [h3] at h2
 simpa using h2.symm
theorem swo_gen (f : α → Arc) (cmp : α → α → Int) (hlt : ∀ x y, cmp x y < 0 ↔ (f x).lt (f y)) : SWO (ltOf cmp) where
 irrefl x := by unfold ltOf; rw [decide_eq_false_iff_not, hlt]; exact Arc.lt_irrefl _
 trans x y z h1 h2 := by
  unfold ltOf at *
  rw [decide_eq_true_iff, hlt] at *
  exact Arc.lt_trans h1 h2
 ntrans x y z h1 h2 := by
  unfold ltOf at *
  rw [decide_eq_false_iff_not, hlt] at *
  unfold Arc.lt at *; omega
theorem tot_gen (f : α → Arc) (cmp : α → α → Int) (hlt : ∀ x y, cmp x y < 0 ↔ (f x).lt (f y)) (hinj : ∀ x y, f x = f y → x = y) (x y : α) (h1 : ltOf cmp x y = false) (h2 : ltOf cmp y x = false) : x = y := by
 unfold ltOf at *
 rw [decide_eq_false_iff_not, hlt] at h1 h2
 exact hinj _ _ (Arc.eq_of_not_lt h1 h2)

theorem sorted_gen [Inhabited α] (f : α → Arc) (cmp : α → α → Int) (hlt : ∀ x y, cmp x y < 0 ↔ (f x).lt (f y)) (hinj : ∀ x y, f x = f y → x = y) (fn : FuncId) (eg : ∀ args w, (callFunc fn args).run Tryz.prog w = .ok (.enter fn args) w) (hcmp : ∀ (blk off size : Nat) (w : World), CmpLays Tryz.prog fn #[] (fun x => (f x).cells) 4 cmp blk off size w)
  (l : List α) (g c base : Nat) (w : World) (hle : l.length ≤ 1000000000000000) (hown : w.ownsRow base 177 4 (.slice (some ⟨g, 0, none⟩) l.length c) l.length (flat (l.map f))) :
  Calls Tryz.prog 158 #[.slice (some ⟨g, 0, none⟩) l.length c, .func (.func fn) #[] #[]] w fun e w' =>
   e = .returned (.tuple #[]) ∧ ∃ S : List α, S.length = l.length ∧ S.Perm l ∧ (S.map f).Pairwise (fun a b => ¬ b.lt a) ∧ w'.ownsRow base 177 4 (.slice (some ⟨g, 0, none⟩) l.length c) l.length (flat (S.map f)) ∧ Chg (· = g) w w' := by
 have hown0 := hown
 obtain ⟨hl, h1⟩ := hown
 rcases h1 with ⟨e, _⟩ | ⟨g', cap, cur, e, hb, hh, hn, hm, hs, ht⟩
 ·cases e
 ·injection e with e1 _ e3
  injection e1 with e1
  injection e1 with e1
  subst e1; subst e3
  have hlt' := (hown0.lt g rfl).2
  have hH : HoldsK (fun x => (f x).cells) 4 w g 0 l.toArray := by
   unfold HoldsK
   rw [flatK_gen]
   intro j hj
   have hj' : j < l.length * 4 := by simpa [flat_length] using hj
   refine ⟨?_, by simp [World.frozen?, hh]⟩
   have e1 : (cur.toList.take (l.length * 4))[j]? = (flat (l.map f))[j]? := by rw [ht]
   rw [List.getElem?_take, if_pos hj', Array.getElem?_toList] at e1
   simp only [World.cell?, hh, Nat.zero_add]
   simp only [Option.isSome_none, Bool.false_eq_true, if_false]
   rw [e1, List.getElem?_eq_getElem (by simpa using hj)]
   rw [getElem!_pos (flat (l.map f)).toArray j hj]
   simp
  have hq := AnyQ.slices_SortFunc_total Tryz.sortArc 4 Tryz.isAgg177 Tryz.sizeOf177 (fun x => (f x).cells) (fun _ => rfl) (fun x v hv => by simp [Arc.cells] at hv; rcases hv with rfl | rfl | rfl | rfl <;> rfl) cmp (swo_gen f cmp hlt)
   fn #[] g 0 c l.toArray w eg (hcmp g 0 _ w) hH hlt' (by simp; omega) (tot_gen f cmp hlt hinj)
  refine Calls.mono (show Calls Tryz.prog 158 _ _ _ from hq) ?_
  rintro e w' ⟨rfl, n, os, hw⟩
  obtain ⟨S, hS⟩ : ∃ S, S = l.mergeSort fun x y => !(ltOf cmp) y x := ⟨_, rfl⟩
  have hp : S.Perm l := by rw [hS]; exact List.mergeSort_perm _ _
  have hsl : S.length = l.length := hp.length_eq
  rw [← hS] at hw
  unfold sortWorldK putRowK at hw
  rw [flatK_gen] at hw
  have O := swo_gen f cmp hlt
  refine ⟨rfl, S, hsl, hp, ?_, ?_, ?_⟩
  ·have h1 : S.Pairwise fun a b => !(ltOf cmp) b a := by
    rw [hS]
    refine List.pairwise_mergeSort (fun a b c h1 h2 => ?_) (fun a b => ?_) l
    ·simp only [Bool.not_eq_true'] at *
     exact O.ntrans c b a h2 h1
    ·cases h : ltOf cmp b a with
     | false => rfl
     | true =>
      cases h' : ltOf cmp a b with
      | false => rfl
      | true =>
       have := O.trans _ _ _ h h'
       rw [O.irrefl] at this; cases this
   rw [List.pairwise_map]
   refine h1.imp (fun {a b} hab => ?_)
   have h4 : ltOf cmp b a = false := by simpa using hab
   unfold ltOf at h4
   rwa [decide_eq_false_iff_not, hlt] at h4
  ·subst hw
   refine ⟨by rw [flat_length, List.length_map, hsl], .inr ⟨g, c, putCells id 0 (flat (S.map f)).toArray cur, rfl, hb, ?_, hn, hm, by simpa [putCells] using hs, ?_⟩⟩
   ·simp only [grow]
    rw [Array.getElem?_append_left (by simp [putRow, mapBlock, Sort.ahead]; exact hlt')]
    simp [putRow, mapBlock, Sort.ahead, Array.getElem?_modify, hh, onCells]
   ·apply List.ext_getElem?
    intro j
    rw [List.getElem?_take, Array.getElem?_toList]
    by_cases hj : j < l.length * 4
    ·have hjc : j < cur.size := by rw [hs]; omega
     have hjf : j < (flat (S.map f)).length := by rw [flat_length, List.length_map, hsl]; exact hj
     simp only [if_pos hj, putCells, Array.getElem?_mapIdx, Array.getElem?_eq_getElem hjc, Option.map_some]
     rw [if_pos (by simp; exact hjf), List.getElem?_eq_getElem hjf]
     simp [getElem!_pos, hjf]
    ·rw [if_neg hj, List.getElem?_eq_none (by rw [flat_length, List.length_map, hsl]; omega)]
  ·subst hw
   refine ⟨rfl, rfl, rfl, by simp [grow, putRow, mapBlock, Sort.ahead], fun k hk hne => ?_⟩
   simp only [grow]
   rw [Array.getElem?_append_left (by simp [putRow, mapBlock, Sort.ahead]; exact hk)]
   simp [putRow, mapBlock, Sort.ahead, Array.getElem?_modify, show g ≠ k from fun e => hne e.symm]
end

theorem inc_of_sorted {S : List Arc} (h : S.Pairwise (fun a b => ¬ b.lt a)) (hn : S.Nodup) : Increasing S := by
 refine (h.and hn).imp (fun {a b} ⟨h1, h2⟩ => ?_)
 by_cases h5 : a.lt b
 ·exact h5
 ·exact absurd (Arc.eq_of_not_lt h5 h1) h2

/-- Arcs of machine's comparing. -/
abbrev SmallArc := {a : Arc // Small a}
instance : Inhabited SmallArc := ⟨⟨⟨0, 0, 0, 0⟩, by simp [Small]⟩⟩
end Go.Proofs.YthachfkcgdfdfaaGreatDoor
/- Walk: machine.Valid is ValidM. -/
namespace Go.Proofs.YthachfkcgdfdfaaGreatDoor
open Go.RowKit Classical

theorem state_yes (z n : Int) (b : Nat) (w : World) (hz : StateOk n z) (h : w.cell? ⟨b, 0, none⟩ = some (.int .i64 n)) :
  Calls Tryz.prog 166 #[.int .i64 z, .pointer (some ⟨b, 0, none⟩)] w fun e w' => e = .returned (.bool true) ∧ w' = w := by
 have := state_any z n b w h; rwa [decide_eq_true hz] at this
theorem state_no (z n : Int) (b : Nat) (w : World) (hz : ¬ StateOk n z) (h : w.cell? ⟨b, 0, none⟩ = some (.int .i64 n)) :
  Calls Tryz.prog 166 #[.int .i64 z, .pointer (some ⟨b, 0, none⟩)] w fun e w' => e = .returned (.bool false) ∧ w' = w := by
 have := state_any z n b w h; rwa [decide_eq_false hz] at this
theorem symbol_yes (z : Int) (w : World) (hz : SymOk z) : Calls Tryz.prog 167 #[.int .i64 z] w fun e w' => e = .returned (.bool true) ∧ w' = w := by
 have := symbol_any z w; rwa [decide_eq_true hz] at this
theorem symbol_no (z : Int) (w : World) (hz : ¬ SymOk z) : Calls Tryz.prog 167 #[.int .i64 z] w fun e w' => e = .returned (.bool false) ∧ w' = w := by
 have := symbol_any z w; rwa [decide_eq_false hz] at this

theorem pair_snoc {α : Type} {R : α → α → Prop} (hR : ∀ a b c, R a b → R b c → R a c) {l : List α} {k : Nat} {x : α} (hx : l[k]? = some x) (h : (l.take k).Pairwise R) (hp : ∀ y, 0 < k → l[k - 1]? = some y → R y x) : (l.take (k + 1)).Pairwise R := by
 rw [List.take_add_one, hx]
 refine List.pairwise_append.2 ⟨h, List.pairwise_singleton _ _, fun a ha b hb => ?_⟩
 obtain rfl : b = x := by simpa using hb
 obtain ⟨i, hi⟩ := List.mem_iff_getElem?.1 ha
 rw [List.getElem?_take] at hi
 split at hi
 ·rename_i hik
  have hkl : k < l.length := (List.getElem?_eq_some_iff.1 hx).1
  have hlast := hp l[k - 1] (by omega) (List.getElem?_eq_getElem (by omega))
  rcases Nat.lt_or_ge i (k - 1) with h1 | h1
  ·have hik' : i < (l.take k).length := by rw [List.length_take]; omega
   have hkk' : k - 1 < (l.take k).length := by rw [List.length_take]; omega
   have := List.pairwise_iff_getElem.1 h i (k - 1) hik' hkk' h1
   rw [List.getElem_take, List.getElem_take] at this
   have e : l[i] = a := by rw [List.getElem?_eq_getElem (by omega)] at hi; exact Option.some.inj hi
   rw [e] at this
   exact hR _ _ _ this hlast
  ·have e : i = k - 1 := by omega
   subst e
   rw [List.getElem?_eq_getElem (by omega)] at hi
   obtain rfl := Option.some.inj hi
   exact hlast
 ·cases hi
theorem pair_last {α : Type} {R : α → α → Prop} {l : List α} {k : Nat} {x y : α} (h : l.Pairwise R) (h0 : 0 < k) (hx : l[k]? = some x) (hy : l[k - 1]? = some y) : R y x := by
 obtain ⟨h1, e1⟩ := List.getElem?_eq_some_iff.1 hx
 obtain ⟨h2, e2⟩ := List.getElem?_eq_some_iff.1 hy
 have := List.pairwise_iff_getElem.1 h (k - 1) k h2 h1 (by omega)
 rwa [e1, e2] at this

def FinPart (M : Mach) (k : Nat) : Prop := (∀ j s, j < k → M.final[j]? = some s → StateOk M.states s) ∧ (M.final.take k).Pairwise (· < ·)
def ArcPart (M : Mach) (k : Nat) : Prop := (∀ j a, j < k → M.arcs[j]? = some a → StateOk M.states a.frm ∧ StateOk M.states a.to ∧ SymOk a.inp ∧ SymOk a.out) ∧ (M.arcs.take k).Pairwise Arc.lt
theorem FinPart.zero (M : Mach) : FinPart M 0 := ⟨fun j s hj => absurd hj (Nat.not_lt_zero _), by simp⟩
theorem ArcPart.zero (M : Mach) : ArcPart M 0 := ⟨fun j s hj => absurd hj (Nat.not_lt_zero _), by simp⟩
theorem FinPart.snoc {M : Mach} {k : Nat} {x : Int} (h : FinPart M k) (hx : M.final[k]? = some x) (ho : StateOk M.states x) (hp : ∀ y, 0 < k → M.final[k - 1]? = some y → y < x) : FinPart M (k + 1) := by
 refine ⟨fun j s hj hs => ?_, pair_snoc (R := fun a b : Int => a < b) (fun a b c h1 h2 => Int.lt_trans h1 h2) hx h.2 hp⟩
 rcases Nat.lt_succ_iff_lt_or_eq.1 hj with hj | rfl
 ·exact h.1 j s hj hs
 ·rw [hx] at hs; cases hs; exact ho
theorem ArcPart.snoc {M : Mach} {k : Nat} {x : Arc} (h : ArcPart M k) (hx : M.arcs[k]? = some x) (ho : StateOk M.states x.frm ∧ StateOk M.states x.to ∧ SymOk x.inp ∧ SymOk x.out) (hp : ∀ y, 0 < k → M.arcs[k - 1]? = some y → y.lt x) : ArcPart M (k + 1) := by
 refine ⟨fun j s hj hs => ?_, pair_snoc (R := Arc.lt) (fun a b c h1 h2 => Arc.lt_trans h1 h2) hx h.2 hp⟩
 rcases Nat.lt_succ_iff_lt_or_eq.1 hj with hj | rfl
 ·exact h.1 j s hj hs
 ·rw [hx] at hs; cases hs; exact ho
theorem FinPart.all {M : Mach} (h : FinPart M M.final.length) : (∀ s ∈ M.final, StateOk M.states s) ∧ M.final.Pairwise (· < ·) :=
 ⟨fun s hs => by
  obtain ⟨j, hj⟩ := List.mem_iff_getElem?.1 hs
  exact h.1 j s (List.getElem?_eq_some_iff.1 hj).1 hj, by have := h.2; rwa [List.take_length] at this⟩
theorem ArcPart.all {M : Mach} (h : ArcPart M M.arcs.length) : (∀ a ∈ M.arcs, StateOk M.states a.frm ∧ StateOk M.states a.to ∧ SymOk a.inp ∧ SymOk a.out) ∧ Increasing M.arcs :=
 ⟨fun s hs => by
  obtain ⟨j, hj⟩ := List.mem_iff_getElem?.1 hs
  exact h.1 j s (List.getElem?_eq_some_iff.1 hj).1 hj, by have := h.2; rwa [List.take_length] at this⟩
set_option maxRecDepth 100000 in
set_option maxHeartbeats 4000000 in
theorem MValid_any (M : Mach) (v : Value) (w : World) (h : MachAt w w.heap.size v M) :
  Calls Tryz.prog 101 #[v] w fun e w' => e = .returned (.bool (decide (ValidM M))) ∧ Below w.heap.size w w' := by
 obtain ⟨fa, fc, aa, ac, rfl, hfl, hal, hf, ha⟩ := h
 have hfl' := hfl
 unfold maxLen at hfl hal
 obtain ⟨W0, hW0⟩ : ∃ W0 : World, W0 = w.alloc (.cells #[.int .i64 M.states, .int .i64 M.start, .slice fa M.final.length fc, .slice aa M.arcs.length ac] 96) := ⟨_, rfl⟩
 have hw0 : Below w.heap.size w W0 := by rw [hW0]; exact (Below.refl _ _).alloc (Nat.le_refl _) _
 have hB0 : Blk W0 w.heap.size #[.int .i64 M.states, .int .i64 M.start, .slice fa M.final.length fc, .slice aa M.arcs.length ac] 96 := by rw [hW0]; exact Blk.new _ _ _
 have hlt0 := hB0.lt
 have HM := Lib.hid (fun (wr : World) (hbw : Below W0.heap.size W0 wr) => (show wr.cell? ⟨w.heap.size, 0, none⟩ = some (.int .i64 M.states) ∧ wr.cell? ⟨w.heap.size, 1, none⟩ = some (.int .i64 M.start) ∧ wr.cell? ⟨w.heap.size, 2, none⟩ = some (.slice fa M.final.length fc) ∧ wr.cell? ⟨w.heap.size, 3, none⟩ = some (.slice aa M.arcs.length ac) from
  ⟨(hB0.below hbw hlt0).cell 0, (hB0.below hbw hlt0).cell 1, (hB0.below hbw hlt0).cell 2, (hB0.below hbw hlt0).cell 3⟩))
 have HF := Lib.hid (fun (wr : World) (hbw : Below W0.heap.size W0 wr) (k : Nat) (hk : k < M.final.length) => by
  obtain ⟨b, off, e, hb, hc⟩ := hf.nums (by omega)
  exact (⟨b, off, e, ((hw0.trans (hbw.mono hw0.size)).cell (p := ⟨b, off + k, none⟩) hb).trans (hc k hk)⟩ : ∃ b off, fa = some ⟨b, off, none⟩ ∧ wr.cell? ⟨b, off + k, none⟩ = some (.int .i64 M.final[k])))
 have HA := Lib.hid (fun (wr : World) (hbw : Below W0.heap.size W0 wr) (k : Nat) (hk : k < M.arcs.length) => by
  obtain ⟨b, off, e, hb, hc⟩ := ha.arcs (by omega)
  have hx := hw0.trans (hbw.mono hw0.size)
  exact (⟨b, off, e, (hx.cell (p := ⟨b, off + k * 4, none⟩) hb).trans (hc k hk).1, (hx.cell (p := ⟨b, off + k * 4 + 1, none⟩) hb).trans (hc k hk).2.1,
   (hx.cell (p := ⟨b, off + k * 4 + 2, none⟩) hb).trans (hc k hk).2.2.1, (hx.cell (p := ⟨b, off + k * 4 + 3, none⟩) hb).trans (hc k hk).2.2.2⟩ :
   ∃ b off, aa = some ⟨b, off, none⟩ ∧ wr.cell? ⟨b, off + k * 4, none⟩ = some (.int .i64 M.arcs[k].frm) ∧ wr.cell? ⟨b, off + k * 4 + 1, none⟩ = some (.int .i64 M.arcs[k].inp) ∧ wr.cell? ⟨b, off + k * 4 + 2, none⟩ = some (.int .i64 M.arcs[k].out) ∧ wr.cell? ⟨b, off + k * 4 + 3, none⟩ = some (.int .i64 M.arcs[k].to)))
 have HW0 := Lib.hid (And.intro hW0 hw0)
 obtain ⟨m0, m1, m2, m3⟩ := HM.out W0 (Below.refl _ _)
 clear hW0 hw0 hB0 hf ha
 go_enter Tryz.func101, Tryz.ntmps101
 go_upto_region 3 with (fail)
 rw [← HW0.out.1]
 by_cases h1 : M.states < 1
 ·have d1 : decide (M.states < 1) = true := decide_eq_true h1
  have hno := Lib.hid (show ¬ ValidM M from fun h => by have := h.one; omega)
  go_wp2
  go_ret
  exact ⟨ret_no hno.out, HW0.out.2⟩
 ·have d1 : decide (M.states < 1) = false := decide_eq_false h1
  by_cases h2 : 4000 < M.states
  ·have d2 : decide (4000 < M.states) = true := decide_eq_true h2
   have hno := Lib.hid (show ¬ ValidM M from fun h => by have := h.most; omega)
   go_wp2
   go_ret
   exact ⟨ret_no hno.out, HW0.out.2⟩
  ·have d2 : decide (4000 < M.states) = false := decide_eq_false h2
   by_cases h3 : StateOk M.states M.start
   ·have q3 := state_yes M.start M.states w.heap.size W0 h3 m0
    have Q3 := Lib.hid q3
    have H3 := Lib.hid h3
    clear q3 h3
    by_cases h4 : 20000 < M.arcs.length
    ·have d4 : decide ((20000 : Int) < (M.arcs.length : Int)) = true := decide_eq_true (by omega)
     have hno := Lib.hid (show ¬ ValidM M from fun h => by have := h.arcsLen; omega)
     go_wp2_with (go_at_call 166; refine Q3.out.mono ?_; rintro e w' ⟨rfl, rfl⟩)
     go_ret
     exact ⟨ret_no hno.out, HW0.out.2⟩
    ·have d4 : decide ((20000 : Int) < (M.arcs.length : Int)) = false := decide_eq_false (by omega)
     have H4 := Lib.hid h4
     clear h4
     go_wp2_with (go_at_call 166; refine Q3.out.mono ?_; rintro e w' ⟨rfl, hwe⟩; have hwe := hwe.symm; subst hwe)
     clear Q3 d1 d2 d4 m0 m1 m2 m3
     go_loopw [34] (fun i wr => ∃ k : Nat, i = .int .i64 k ∧ k ≤ M.final.length ∧ FinPart M k ∧ Below W0.heap.size W0 wr) (fun i _ => M.final.length - (intOf i).toNat)
     case atStart => exact ⟨0, rfl, Nat.zero_le _, FinPart.zero M, Below.refl _ _⟩
     case round =>
      obtain ⟨k, rfl, hkl, hP, hbw⟩ := hrel
      have HP := Lib.hid hP
      clear hP
      obtain ⟨m0, m1, m2, m3⟩ := HM.out wr hbw
      have hbW := HW0.out.2.trans (hbw.mono HW0.out.2.size)
      by_cases hk : k < M.final.length
      ·obtain ⟨b, off, rfl, x0⟩ := HF.out wr hbw k hk
       obtain ⟨x, hxe⟩ : ∃ x, x = M.final[k] := ⟨_, rfl⟩
       rw [← hxe] at x0
       have Hxe := Lib.hid (show M.final[k]? = some x by rw [hxe]; exact List.getElem?_eq_getElem hk)
       clear hxe
       by_cases hx : StateOk M.states x
       ·have Hx := Lib.hid hx
        have Q3 := Lib.hid (state_yes x M.states w.heap.size wr hx m0)
        clear hx
        rcases Nat.eq_zero_or_pos k with hk0 | hk0
        ·have d0 : decide (0 < k) = false := decide_eq_false (by omega)
         have Hk0 := Lib.hid hk0
         clear hk0
         go_wp2_with (go_at_call 166; refine Q3.out.mono ?_; rintro e w' ⟨rfl, hwe⟩; have hwe := hwe.symm; subst hwe)
         exact ⟨⟨k + 1, by go_num, by omega, HP.out.snoc Hxe.out Hx.out (fun y h0 => absurd Hk0.out (by omega)), hbw⟩, by simp [intOf]; omega⟩
        ·obtain ⟨b', off', e', y0⟩ := HF.out wr hbw (k - 1) (by omega)
         cases e'
         obtain ⟨y, hye⟩ : ∃ y, y = M.final[k - 1] := ⟨_, rfl⟩
         rw [← hye] at y0
         have Hye := Lib.hid (show M.final[k - 1]? = some y by rw [hye]; exact List.getElem?_eq_getElem (by omega))
         clear hye
         obtain ⟨p, rfl⟩ : ∃ p, k = p + 1 := ⟨k - 1, by omega⟩
         have d0 : decide ((0 : Int) < (p : Int) + 1) = true := decide_eq_true (by omega)
         have hwp : IntKind.i64.wrap (p : Int) = p := IntWalk.i64_in _ (by omega)
         have hps : p < M.final.length := by omega
         simp only [Nat.add_sub_cancel] at y0
         by_cases hxy : x ≤ y
         ·have d5 : decide (x ≤ y) = true := decide_eq_true hxy
          have hno := Lib.hid (show ¬ ValidM M from fun h => by
           have := pair_last h.inc hk0 Hxe.out Hye.out
           omega)
          go_wp2_with (go_at_call 166; refine Q3.out.mono ?_; rintro e w' ⟨rfl, hwe⟩; have hwe := hwe.symm; subst hwe)
          go_ret
          exact ⟨ret_no hno.out, hbW⟩
         ·have d5 : decide (x ≤ y) = false := decide_eq_false hxy
          go_wp2_with (go_at_call 166; refine Q3.out.mono ?_; rintro e w' ⟨rfl, hwe⟩; have hwe := hwe.symm; subst hwe)
          refine ⟨⟨p + 1 + 1, by go_num, by omega, HP.out.snoc Hxe.out Hx.out (fun z h0 hz => ?_), hbw⟩, by simp [intOf]; omega⟩
          rw [Hye.out] at hz; cases hz; omega
       ·have Q3 := Lib.hid (state_no x M.states w.heap.size wr hx m0)
        have hno := Lib.hid (show ¬ ValidM M from fun h => hx (h.final x (List.mem_of_getElem? Hxe.out)))
        clear hx
        go_wp2_with (go_at_call 166; refine Q3.out.mono ?_; rintro e w' ⟨rfl, hwe⟩; have hwe := hwe.symm; subst hwe)
        go_ret
        exact ⟨ret_no hno.out, hbW⟩
      ·obtain rfl : k = M.final.length := by omega
       have HFin := Lib.hid HP.out.all
       clear HP
       go_wp2_with fail
       obtain ⟨wo, rfl⟩ : ∃ wo : World, wo = wr := ⟨_, rfl⟩
       go_loopw [61] (fun i wr => ∃ k : Nat, i = .int .i64 k ∧ k ≤ M.arcs.length ∧ ArcPart M k ∧ Below W0.heap.size W0 wr) (fun i _ => M.arcs.length - (intOf i).toNat)
       case atStart => exact ⟨0, rfl, Nat.zero_le _, ArcPart.zero M, hbw⟩
       case round =>
        clear hbw hbW m0 m1 m2 m3
        obtain ⟨k, rfl, hkl, hP, hbw⟩ := hrel
        have HP := Lib.hid hP
        clear hP
        obtain ⟨m0, m1, m2, m3⟩ := HM.out wr hbw
        have hbW := HW0.out.2.trans (hbw.mono HW0.out.2.size)
        by_cases hk : k < M.arcs.length
        ·obtain ⟨b, off, rfl, x0, x1, x2, x3⟩ := HA.out wr hbw k hk
         obtain ⟨x, hxe⟩ : ∃ x, x = M.arcs[k] := ⟨_, rfl⟩
         rw [← hxe] at x0 x1 x2 x3
         have Hxe := Lib.hid (show M.arcs[k]? = some x by rw [hxe]; exact List.getElem?_eq_getElem hk)
         clear hxe
         obtain ⟨wo, rfl⟩ : ∃ wo : World, wo = wr := ⟨_, rfl⟩
         go_upto_region 14 with (fail)
         obtain ⟨W1, hW1⟩ : ∃ W1 : World, W1 = wo.alloc (.cells #[.int .i64 x.frm, .int .i64 x.inp, .int .i64 x.out, .int .i64 x.to] 177) := ⟨_, rfl⟩
         rw [← hW1]
         have hb1 : Below wo.heap.size wo W1 := by rw [hW1]; exact (Below.refl _ _).alloc (Nat.le_refl _) _
         have hk1 : Blk W1 wo.heap.size #[.int .i64 x.frm, .int .i64 x.inp, .int .i64 x.out, .int .i64 x.to] 177 := by rw [hW1]; exact Blk.new _ _ _
         have hbw1 := hbw.trans (hb1.mono hbw.size)
         clear hW1 x0 x1 x2 x3 m0 m1 m2 m3
         obtain ⟨m0, m1, m2, m3⟩ := HM.out W1 hbw1
         have a0 := hk1.cell 0
         have a1 := hk1.cell 1
         have a2 := hk1.cell 2
         have a3 := hk1.cell 3
         simp only [List.getElem?_toArray, List.getElem?_cons_zero, List.getElem?_cons_succ] at a0 a1 a2 a3
         have hbW1 := HW0.out.2.trans (hbw1.mono HW0.out.2.size)
         clear hk1 hb1 hbw hbW
         have hin := List.mem_of_getElem? Hxe.out
         have Hin := Lib.hid hin
         clear hin
         by_cases p1 : StateOk M.states x.frm
         ·by_cases p2 : StateOk M.states x.to
          ·by_cases p3 : SymOk x.inp
           ·by_cases p4 : SymOk x.out
            ·have hok := Lib.hid (show StateOk M.states x.frm ∧ StateOk M.states x.to ∧ SymOk x.inp ∧ SymOk x.out from ⟨p1, p2, p3, p4⟩)
             rcases Nat.eq_zero_or_pos k with hk0 | hk0
             ·have d0 : decide (0 < k) = false := decide_eq_false (by omega)
              have Hk0 := Lib.hid hk0
              clear hk0
              go_quiet ((first | (go_at_call 166; exact Calls.quiet_of_same (state_yes _ _ _ _ (by assumption) (by assumption))) | (go_at_call 167; exact Calls.quiet_of_same (symbol_yes _ _ (by assumption)))))
              go_wp2
              exact ⟨⟨k + 1, by go_num, by omega, HP.out.snoc Hxe.out hok.out (fun y h0 => absurd Hk0.out (by omega)), Go.below_drewN hbw1 _⟩, by simp [intOf]; omega⟩
             ·obtain ⟨b', off', e', y0, y1, y2, y3⟩ := HA.out W1 hbw1 (k - 1) (by omega)
              cases e'
              obtain ⟨y, hye⟩ : ∃ y, y = M.arcs[k - 1] := ⟨_, rfl⟩
              rw [← hye] at y0 y1 y2 y3
              have Hye := Lib.hid (show M.arcs[k - 1]? = some y by rw [hye]; exact List.getElem?_eq_getElem (by omega))
              clear hye
              obtain ⟨p, rfl⟩ : ∃ p, k = p + 1 := ⟨k - 1, by omega⟩
              have d0 : decide ((0 : Int) < (p : Int) + 1) = true := decide_eq_true (by omega)
              have hwp : IntKind.i64.wrap (p : Int) = p := IntWalk.i64_in _ (by omega)
              have hps : p < M.arcs.length := by omega
              simp only [Nat.add_sub_cancel] at y0 y1 y2 y3
              have hsx : Small x := small_of h2 hok.out
              refine wp_region_still_tail 37 (by kernel_rfl) (by kernel_rfl) ?_
              simp only [List.take_succ_cons, List.take_zero, List.drop_succ_cons, List.drop_zero]
              repeat (first | still_step | still_call (state_yes _ _ _ _ (by assumption) (by assumption)) | still_call (symbol_yes _ _ (by assumption)))
              refine wpStill_nil ?_
              change wpList _ _ _ _ _ W1.drew
              clear hwp y0 y1 y2 y3 a0 a1 a2 a3 m0 m1 m2 m3
              obtain ⟨wk, hwk⟩ : ∃ wk, W1.drew = wk := ⟨_, rfl⟩
              have hbk : Below W0.heap.size W0 wk := by rw [← hwk]; exact hbw1.drew
              rw [hwk]
              clear hwk hbw1 hbW1
              have hsy : Small y := small_of h2 (HP.out.1 p y (by omega) Hye.out)
              have hneg := subA_lt y x
              have HQ := compare_below y x hsy hsx wk
              obtain ⟨z, hz⟩ : ∃ z, subA y x = z := ⟨_, rfl⟩
              rw [hz] at HQ hneg
              have HQ := Lib.hid HQ
              have Hneg := Lib.hid hneg
              clear hz hneg hsx hsy
              by_cases hz0 : z < 0
              ·have hd : decide (0 ≤ z) = false := decide_eq_false (by omega)
               have hyx := Lib.hid (Hneg.out.1 hz0)
               clear hz0
               go_wp2_with (go_at_call 161; refine HQ.out.mono ?_; rintro e w1 ⟨rfl, hb1⟩)
               refine ⟨⟨p + 1 + 1, by go_num, by omega, HP.out.snoc Hxe.out hok.out (fun u h0 hu => ?_), hbk.trans (hb1.mono hbk.size)⟩, by simp [intOf]; omega⟩
               rw [Nat.add_sub_cancel, ← Nat.add_sub_cancel (n := p) (m := 1), Hye.out] at hu
               cases hu; exact hyx.out
              ·have hd : decide (0 ≤ z) = true := decide_eq_true (by omega)
               have hno := Lib.hid (show ¬ ValidM M from fun h => hz0 (Hneg.out.2 (pair_last h.arcsInc hk0 Hxe.out Hye.out)))
               clear hz0
               go_wp2_with (go_at_call 161; refine HQ.out.mono ?_; rintro e w1 ⟨rfl, hb1⟩)
               have hbF := HW0.out.2.trans ((hbk.trans (hb1.mono hbk.size)).mono HW0.out.2.size)
               go_ret
               exact ⟨ret_no hno.out, hbF⟩
            ·have hno := Lib.hid (show ¬ ValidM M from fun h => p4 (h.arcs x Hin.out).2.2.2)
             go_quiet ((first | (go_at_call 166; exact Calls.quiet_of_same (state_yes _ _ _ _ (by assumption) (by assumption))) | (go_at_call 167; exact Calls.quiet_of_same (symbol_yes _ _ (by assumption))) | (go_at_call 167; exact Calls.quiet_of_same (symbol_no _ _ (by assumption)))))
             go_wp2
             go_ret
             exact ⟨ret_no hno.out, Go.below_drewN hbW1 _⟩
           ·have hno := Lib.hid (show ¬ ValidM M from fun h => p3 (h.arcs x Hin.out).2.2.1)
            go_quiet ((first | (go_at_call 166; exact Calls.quiet_of_same (state_yes _ _ _ _ (by assumption) (by assumption))) | (go_at_call 167; exact Calls.quiet_of_same (symbol_no _ _ (by assumption)))))
            go_wp2
            go_ret
            exact ⟨ret_no hno.out, Go.below_drewN hbW1 _⟩
          ·have hno := Lib.hid (show ¬ ValidM M from fun h => p2 (h.arcs x Hin.out).2.1)
           go_quiet ((first | (go_at_call 166; exact Calls.quiet_of_same (state_yes _ _ _ _ (by assumption) (by assumption))) | (go_at_call 166; exact Calls.quiet_of_same (state_no _ _ _ _ (by assumption) (by assumption)))))
           go_wp2
           go_ret
           exact ⟨ret_no hno.out, Go.below_drewN hbW1 _⟩
         ·have hno := Lib.hid (show ¬ ValidM M from fun h => p1 (h.arcs x Hin.out).1)
          go_quiet ((first | (go_at_call 166; exact Calls.quiet_of_same (state_no _ _ _ _ (by assumption) (by assumption)))))
          go_wp2
          go_ret
          exact ⟨ret_no hno.out, Go.below_drewN hbW1 _⟩
        ·obtain rfl : k = M.arcs.length := by omega
         have hyes := Lib.hid (show ValidM M from ⟨by omega, h2, H3.out, by have := H4.out; omega, HFin.out.1, HFin.out.2, HP.out.all.1, HP.out.all.2⟩)
         go_wp2
         go_ret
         exact ⟨ret_yes hyes.out, hbW⟩
   ·have q3 := state_no M.start M.states w.heap.size W0 h3 m0
    have Q3 := Lib.hid q3
    have hno := Lib.hid (show ¬ ValidM M from fun h => h3 h.start)
    clear q3 h3
    go_wp2_with (go_at_call 166; refine Q3.out.mono ?_; rintro e w' ⟨rfl, rfl⟩)
    go_ret
    exact ⟨ret_no hno.out, HW0.out.2⟩
end Go.Proofs.YthachfkcgdfdfaaGreatDoor
/- Walk: machine.Invert. -/
namespace Go.Proofs.YthachfkcgdfdfaaGreatDoor
open Go.RowKit Classical

theorem RowAt.setC {w : World} {B : Nat} {a : Option Addr} {xs : List Value} (h : RowAt w B a xs) {p : Addr} (hne : ∀ b o, a = some ⟨b, o, none⟩ → b ≠ p.block) (u : Value) : RowAt (w.setCell p u) B a xs := fun hn => by
 obtain ⟨b, off, e, hb, hc⟩ := h hn
 exact ⟨b, off, e, hb, fun i x hi => (World.cell?_setCell_other w p ⟨b, off + i, none⟩ u (fun e2 => hne b off e (by rw [e2]))).trans (hc i x hi)⟩

end Go.Proofs.YthachfkcgdfdfaaGreatDoor
/- D0 · D3 -/
/- Walks: compose.compare, slices.Compact at arcs. -/
namespace Go.Proofs.YthachfkcgdfdfaaGreatDoor
open Go.RowKit Go.Shelf Go.Lib Go.Sort Classical

set_option maxRecDepth 100000 in
set_option maxHeartbeats 2000000 in
theorem compareC_any (a b : Arc) (w : World) :
  Calls Tryz.prog 205 #[.agg #[.int .i64 a.frm, .int .i64 a.inp, .int .i64 a.out, .int .i64 a.to], .agg #[.int .i64 b.frm, .int .i64 b.inp, .int .i64 b.out, .int .i64 b.to]] w
   fun e w' => e = .returned (.int .i64 (cmpA a b)) ∧ ∃ o1 o2 o3, w' = (((w.alloc o1).alloc o2).drewN 1).alloc o3 := by
 obtain ⟨W1, hW1⟩ : ∃ W1 : World, W1 = (w.alloc (.cells #[.int .i64 a.frm, .int .i64 a.inp, .int .i64 a.out, .int .i64 a.to] 177)).alloc (.cells #[.int .i64 b.frm, .int .i64 b.inp, .int .i64 b.out, .int .i64 b.to] 177) := ⟨_, rfl⟩
 have ha : Blk W1 w.heap.size #[.int .i64 a.frm, .int .i64 a.inp, .int .i64 a.out, .int .i64 a.to] 177 := by rw [hW1]; exact (Blk.new _ _ _).alloc _
 have hb : Blk W1 (w.heap.size + 1) #[.int .i64 b.frm, .int .i64 b.inp, .int .i64 b.out, .int .i64 b.to] 177 := by
  rw [hW1]; have := Blk.new (w.alloc (.cells #[.int .i64 a.frm, .int .i64 a.inp, .int .i64 a.out, .int .i64 a.to] 177)) #[.int .i64 b.frm, .int .i64 b.inp, .int .i64 b.out, .int .i64 b.to] 177; simpa using this
 have a0 := ha.cell 0
 have a1 := ha.cell 1
 have a2 := ha.cell 2
 have a3 := ha.cell 3
 have b0 := hb.cell 0
 have b1 := hb.cell 1
 have b2 := hb.cell 2
 have b3 := hb.cell 3
 simp only [List.getElem?_toArray, List.getElem?_cons_zero, List.getElem?_cons_succ] at a0 a1 a2 a3 b0 b1 b2 b3
 have HW1 := Lib.hid hW1
 clear hW1 ha hb
 go_enter Tryz.func205, Tryz.ntmps205
 go_wp2_with fail
 rw [← HW1.out]
 refine wp_region_still_tail 20 (by kernel_rfl) (by kernel_rfl) ?_
 simp only [List.take_succ_cons, List.take_zero, List.drop_succ_cons, List.drop_zero]
 repeat (first | still_step | still_call (Tryz.cmp_Compare_int _ _ _))
 refine wpStill_nil ?_
 change wpList _ _ _ _ _ W1.drew
 obtain ⟨c1, h1⟩ : ∃ z, Lib.compareInt a.frm b.frm = z := ⟨_, rfl⟩
 obtain ⟨c2, h2⟩ : ∃ z, Lib.compareInt a.inp b.inp = z := ⟨_, rfl⟩
 obtain ⟨c3, h3⟩ : ∃ z, Lib.compareInt a.out b.out = z := ⟨_, rfl⟩
 obtain ⟨c4, h4⟩ : ∃ z, Lib.compareInt a.to b.to = z := ⟨_, rfl⟩
 rw [h1, h2, h3, h4]
 have Hc := Lib.hid (show cmpA a b = orI [c1, c2, c3, c4] from by rw [cmpA, h1, h2, h3, h4])
 clear h1 h2 h3 h4 a0 a1 a2 a3 b0 b1 b2 b3
 have hrow : RowAt (W1.drew.alloc (.cells (nums [c1, c2, c3, c4]).toArray 3)) (W1.drew.heap.size + 1) (some ⟨W1.drew.heap.size, 0, none⟩) (nums [c1, c2, c3, c4]) := fun _ =>
  ⟨_, 0, rfl, by omega, fun i x hx => by rw [Nat.zero_add]; exact Box.new W1.drew (nums [c1, c2, c3, c4]) 3 i x hx⟩
 have qo := Or_any [c1, c2, c3, c4] _ 4 _ (by simp [maxLen]) _ hrow
 have HQ := Lib.hid qo
 clear qo hrow
 go_wp2_with fail
 refine HQ.out.mono ?_
 rintro e w2 ⟨rfl, hw2⟩
 have Hw2 := Lib.hid hw2
 clear hw2
 go_wp2_with fail
 go_ret
 exact ⟨ret_int Hc.out.symm, _, _, _, by rw [Hw2.out, HW1.out]; rfl⟩

theorem cmpLaysC (blk off size : Nat) (w : World) : CmpLays Tryz.prog 205 #[] Arc.cells 4 cmpA blk off size w := fun m os dk _ x y => by
 refine (compareC_any x y _).mono ?_
 rintro e w' ⟨rfl, o1, o2, o3, rfl⟩
 refine ⟨rfl, 1, #[o1, o2, o3], ?_⟩
 generalize sortWorldK Arc.cells 4 w blk off m dk os = W
 rw [show (W.alloc o1).alloc o2 = grow W #[o1, o2] from by rw [alloc_eq_grow, alloc_eq_grow, grow_grow]; rfl]
 rw [show (grow W #[o1, o2]).drewN 1 = grow (W.drewN 1) #[o1, o2] from rfl, alloc_eq_grow, grow_grow]
 rfl
theorem sortC (l : List Arc) (g c base : Nat) (w : World) (hle : l.length ≤ 1000000000000000) (hown : w.ownsRow base 177 4 (.slice (some ⟨g, 0, none⟩) l.length c) l.length (flat l)) :
  Calls Tryz.prog 158 #[.slice (some ⟨g, 0, none⟩) l.length c, .func (.func 205) #[] #[]] w fun e w' =>
   e = .returned (.tuple #[]) ∧ ∃ S : List Arc, S.length = l.length ∧ S.Perm l ∧ S.Pairwise (fun a b => ¬ b.lt a) ∧ w'.ownsRow base 177 4 (.slice (some ⟨g, 0, none⟩) l.length c) l.length (flat S) ∧ Chg (· = g) w w' := by
 have h := sorted_gen (fun x : Arc => x) cmpA cmpA_lt (fun x y e => e) 205 (enters_of Tryz.func205 (by kernel_rfl) rfl) cmpLaysC l g c base w hle (by rw [List.map_id']; exact hown)
 refine h.mono ?_
 rintro e w' ⟨he, S, h1, h2, h3, h4, h5⟩
 rw [List.map_id'] at h3 h4
 exact ⟨he, S, h1, h2, h3, h4, h5⟩

end Go.Proofs.YthachfkcgdfdfaaGreatDoor

/- Walk: compose.made: a machine with its arcs in order. -/
namespace Go.Proofs.YthachfkcgdfdfaaGreatDoor
open Go.RowKit Go.Shelf Go.Lib Go.Sort Classical

theorem Chg.set_new {S : Nat → Prop} {w W : World} (h : Chg S w W) {p : Addr} (hp : w.heap.size ≤ p.block) (v : Value) : Chg S w (W.setCell p v) :=
 h.trans_new (T := fun k => k = p.block) (Chg.setCell (S := fun k => k = p.block) _ (.inl rfl) _) (fun i hi h => by omega)
def arcRow (w : World) (base : Nat) (v : Value) (l : List Arc) : Prop := w.ownsRow base 177 4 v l.length (flat l)
theorem sort_row (l : List Arc) (v : Value) (base : Nat) (w : World) (hle : l.length ≤ 1000000000000000) (hown : arcRow w base v l) :
  Calls Tryz.prog 158 #[v, .func (.func 205) #[] #[]] w fun e w' =>
   e = .returned (.tuple #[]) ∧ ∃ S : List Arc, S.length = l.length ∧ S.Perm l ∧ S.Pairwise (fun a b => ¬ b.lt a) ∧ arcRow w' base v S ∧ Chg (fun g => v.ownBlock = some g) w w' := by
 by_cases h0 : l.length = 0
 ·obtain ⟨a, c, rfl, -, -⟩ := RowAt.of_own hown
  rw [h0]
  refine Calls.mono (AnyF.slices_SortFunc_none Tryz.sortArc a c (.func (.func 205) #[] #[]) w) ?_
  rintro e w' ⟨rfl, rfl⟩
  have hl := List.length_eq_zero_iff.1 h0
  subst hl
  exact ⟨rfl, [], rfl, List.Perm.refl _, List.Pairwise.nil, hown, Chg.refl _ _⟩
 ·obtain ⟨m, hm⟩ : ∃ m, l.length = m + 1 := ⟨l.length - 1, by omega⟩
  have h2 := hown
  unfold arcRow at h2
  rw [hm] at h2
  obtain ⟨g, cap, e⟩ := own_succ h2
  rw [← hm] at e
  subst e
  refine (sortC l g cap base w hle hown).mono ?_
  rintro e w' ⟨rfl, S, q1, q2, q3, q4, q5⟩
  exact ⟨rfl, S, q1, q2, q3, by unfold arcRow; rw [q1]; exact q4, q5.mono (fun k e => by rw [e]; rfl)⟩
theorem compact_row (S : List Arc) (v : Value) (base : Nat) (w : World) (hle : S.length ≤ 1000000000000000) (hown : arcRow w base v S) :
  Calls Tryz.prog 206 #[v] w fun e w' => ∃ C aa ac, C = compact S ∧ e = .returned (.slice aa C.length ac) ∧ RowAt w' w'.heap.size aa (flat C) ∧ (0 < C.length → ∀ b o, aa = some ⟨b, o, none⟩ → v.ownBlock = some b) ∧ Chg (fun g => v.ownBlock = some g) w w' := by
 by_cases h0 : S.length = 0
 ·obtain ⟨a, c, rfl, -, -⟩ := RowAt.of_own hown
  have hl := List.length_eq_zero_iff.1 h0
  subst hl
  clear hown
  go_enter Tryz.func206, Tryz.ntmps206
  go_wp2
  go_ret
  exact ⟨[], a, c, rfl, rfl, fun h => by simp [flat] at h, fun h => by simp at h, Chg.refl _ _⟩
 ·obtain ⟨m, hm⟩ : ∃ m, S.length = m + 1 := ⟨S.length - 1, by omega⟩
  have h2 := hown
  unfold arcRow at h2
  rw [hm] at h2
  obtain ⟨g, cap, e⟩ := own_succ h2
  rw [← hm] at e
  subst e
  refine (Compact_arcs S g cap base w hle hown).mono ?_
  rintro e w' ⟨rfl, q1, q2⟩
  exact ⟨_, _, _, rfl, rfl, q1, fun _ b o e => by injection e with e; injection e with e1; rw [← e1]; rfl, q2.mono (fun k e => by rw [e]; rfl)⟩
theorem compact_of {l S : List Arc} (hp : S.Perm l) (h : S.Pairwise (fun a b => ¬ b.lt a)) : ArcsOf l (compact S) :=
 ⟨compact_inc h, fun a => by rw [compact_mem, hp.mem_iff]⟩

def MadeBig (st : Int) (S : List Arc) : Prop := 4000 < st ∨ 20000 < S.length
def MadePost (st start : Int) (fa : Option Addr) (fl fc : Nat) (l : List Arc) (av : Value) (w : World) (e : Ending) (w' : World) : Prop :=
 ∃ S, ArcsOf l S ∧ Chg (fun g => av.ownBlock = some g) w w' ∧ ((MadeBig st S ∧ e = .returned (.tuple #[.agg #[.int .i64 0, .int .i64 0, .slice none 0 0, .slice none 0 0], .int .i64 2])) ∨
  (¬ MadeBig st S ∧ ∃ aa ac, e = .returned (.tuple #[.agg #[.int .i64 st, .int .i64 start, .slice fa fl fc, .slice aa S.length ac], .int .i64 0]) ∧ RowAt w' w'.heap.size aa (flat S)))

set_option maxRecDepth 100000 in
set_option maxHeartbeats 4000000 in
theorem made_any (st start : Int) (fa : Option Addr) (fl fc : Nat) (l : List Arc) (av : Value) (base : Nat) (w : World) (hle : l.length ≤ 1000000000000000) (hown : arcRow w base av l) :
  Calls Tryz.prog 154 #[.agg #[.int .i64 st, .int .i64 start, .slice fa fl fc, av]] w (MadePost st start fa fl fc l av w) := by
 obtain ⟨W0, hW0⟩ : ∃ W0 : World, W0 = (w.alloc (.cells #[.int .i64 st, .int .i64 start, .slice fa fl fc, av] 96)).alloc (.cells #[.int .i64 0, .int .i64 0, .slice none 0 0, .slice none 0 0] 96) := ⟨_, rfl⟩
 have hw0 : Below w.heap.size w W0 := by rw [hW0]; exact ((Below.refl _ _).alloc (Nat.le_refl _) _).alloc (by simp) _
 have hB0 : Blk W0 w.heap.size #[.int .i64 st, .int .i64 start, .slice fa fl fc, av] 96 := by rw [hW0]; exact (Blk.new _ _ _).alloc _
 have hR0 : Blk W0 (w.heap.size + 1) #[.int .i64 0, .int .i64 0, .slice none 0 0, .slice none 0 0] 96 := by
  rw [hW0]; have := Blk.new (w.alloc (.cells #[.int .i64 st, .int .i64 start, .slice fa fl fc, av] 96)) #[.int .i64 0, .int .i64 0, .slice none 0 0, .slice none 0 0] 96
  simpa using this
 have hlt0 := hB0.lt
 have hlt1 := hR0.lt
 have hown0 : arcRow W0 base av l := own_below hown hw0
 have hav : ∀ g, av.ownBlock = some g → g < w.heap.size := fun g e => (hown.lt g e).2
 obtain ⟨aa, ac, rfl, -, -⟩ := RowAt.of_own hown
 have H0 := Lib.hid (And.intro hW0 (And.intro hw0 (And.intro hB0 (And.intro hR0 (And.intro hown0 hav)))))
 have m3 : W0.cell? ⟨w.heap.size, 3, none⟩ = some (.slice aa l.length ac) := hB0.cell 3
 clear hW0 hw0 hB0 hR0 hown0 hav hown
 go_enter Tryz.func154, Tryz.ntmps154
 go_wp2_with fail
 rw [← H0.out.1]
 refine (sort_row l _ base W0 hle H0.out.2.2.2.2.1).mono ?_
 clear m3
 rintro e w1 ⟨rfl, S, hS1, hS2, hS3, hS4, hc1⟩
 have hne : ∀ b, w.heap.size ≤ b → ¬ (Value.slice aa l.length ac).ownBlock = some b := fun b hb e => by have := H0.out.2.2.2.2.2 b e; omega
 have hB1 := H0.out.2.2.1.chg hc1 (hne _ (Nat.le_refl _))
 have hR1 := H0.out.2.2.2.1.chg hc1 (hne _ (by omega))
 have H1 := Lib.hid (And.intro hS1 (And.intro hS2 (And.intro hS3 (And.intro hS4 (And.intro hc1 (And.intro hB1 hR1))))))
 have m3 : w1.cell? ⟨w.heap.size, 3, none⟩ = some (.slice aa l.length ac) := hB1.cell 3
 clear hS1 hS2 hS3 hS4 hc1 hB1 hR1
 go_wp2_with fail
 have hrow := H1.out.2.2.2.1
 refine (compact_row S _ base w1 (by rw [H1.out.1]; exact hle) hrow).mono ?_
 clear m3 hrow
 rintro e w2 ⟨C, a2, c2, hC, rfl, hr2, hap, hc2⟩
 have hB2 := H1.out.2.2.2.2.2.1.chg hc2 (hne _ (Nat.le_refl _))
 have hR2 := H1.out.2.2.2.2.2.2.chg hc2 (hne _ (by omega))
 have m0 : w2.cell? ⟨w.heap.size, 0, none⟩ = some (.int .i64 st) := hB2.cell 0
 have m1 : w2.cell? ⟨w.heap.size, 1, none⟩ = some (.int .i64 start) := hB2.cell 1
 have m2 : w2.cell? ⟨w.heap.size, 2, none⟩ = some (.slice fa fl fc) := hB2.cell 2
 have m3 : w2.cell? ⟨w.heap.size, 3, none⟩ = some (.slice aa l.length ac) := hB2.cell 3
 have f3 := hB2.frozen 3
 have hCl : ArcsOf l C := by rw [hC]; exact compact_of H1.out.2.1 H1.out.2.2.1
 clear hC
 go_upto_region 3 with (fail)
 obtain ⟨W3, hW3⟩ : ∃ W3 : World, W3 = w2.setCell ⟨w.heap.size, 3, none⟩ (.slice a2 C.length c2) := ⟨_, rfl⟩
 rw [← hW3]
 have hB3 : Blk W3 w.heap.size #[.int .i64 st, .int .i64 start, .slice fa fl fc, .slice a2 C.length c2] 96 := by
  rw [hW3]; have := hB2.set_ 3 (.slice a2 C.length c2); simpa using this
 have hR3 : Blk W3 (w.heap.size + 1) #[.int .i64 0, .int .i64 0, .slice none 0 0, .slice none 0 0] 96 := by
  rw [hW3]; exact hR2.far (p := ⟨w.heap.size, 3, none⟩) (by show w.heap.size + 1 ≠ w.heap.size; omega) _
 have hc3 : Chg (fun g => (Value.slice aa l.length ac).ownBlock = some g) w W3 := by
  have h1 := (Chg.of_below (fun g => (Value.slice aa l.length ac).ownBlock = some g) H0.out.2.1).trans (H1.out.2.2.2.2.1.trans hc2)
  refine h1.trans_new (T := fun k => k = w.heap.size) ?_ (fun i hi h => by omega)
  rw [hW3]; exact Chg.setCell (S := fun k => k = w.heap.size) (p := ⟨w.heap.size, 3, none⟩) _ (.inl rfl) _
 have hr3 : RowAt W3 W3.heap.size a2 (flat C) := by
  rw [hW3]
  by_cases h0 : C.length = 0
  ·exact fun h => by rw [flat_length, h0] at h; simp at h
  ·exact (hr2.setC (p := ⟨w.heap.size, 3, none⟩) (fun b o e hb => hne b (Nat.le_of_eq hb.symm) (hap (by omega) b o e)) _).more (by simp)
 have Hap := Lib.hid (fun (h : 0 < C.length) b o (e : a2 = some ⟨b, o, none⟩) => H0.out.2.2.2.2.2 b (hap h b o e))
 have H3 := Lib.hid (And.intro hB3 (And.intro hR3 (And.intro hc3 (And.intro hr3 hCl))))
 have m0 : W3.cell? ⟨w.heap.size, 0, none⟩ = some (.int .i64 st) := hB3.cell 0
 have m1 : W3.cell? ⟨w.heap.size, 1, none⟩ = some (.int .i64 start) := hB3.cell 1
 have m2 : W3.cell? ⟨w.heap.size, 2, none⟩ = some (.slice fa fl fc) := hB3.cell 2
 have m3 : W3.cell? ⟨w.heap.size, 3, none⟩ = some (.slice a2 C.length c2) := hB3.cell 3
 have z0 : W3.cell? ⟨w.heap.size + 1, 0, none⟩ = some (.int .i64 0) := hR3.cell 0
 have z1 : W3.cell? ⟨w.heap.size + 1, 1, none⟩ = some (.int .i64 0) := hR3.cell 1
 have z2 : W3.cell? ⟨w.heap.size + 1, 2, none⟩ = some (.slice none 0 0) := hR3.cell 2
 have z3 : W3.cell? ⟨w.heap.size + 1, 3, none⟩ = some (.slice none 0 0) := hR3.cell 3
 have fz : ∀ j, W3.frozen? ⟨w.heap.size + 1, j, none⟩ = false := fun j => hR3.frozen j
 clear hW3 hB3 hR3 hc3 hr3 hCl hB2 hR2 hr2 hc2 hap
 have hend1 : MadeBig st C → MadePost st start fa fl fc l (.slice aa l.length ac) w (.returned (.tuple #[.agg #[.int .i64 0, .int .i64 0, .slice none 0 0, .slice none 0 0], .int .i64 2])) ((((W3.setCell ⟨w.heap.size + 1, 0, none⟩ (.int .i64 0)).setCell ⟨w.heap.size + 1, 1, none⟩ (.int .i64 0)).setCell ⟨w.heap.size + 1, 2, none⟩ (.slice none 0 0)).setCell ⟨w.heap.size + 1, 3, none⟩ (.slice none 0 0)) := fun hb =>
  ⟨C, H3.out.2.2.2.2, (((H3.out.2.2.1.set_new (p := ⟨w.heap.size + 1, 0, none⟩) (by simp) _).set_new (p := ⟨w.heap.size + 1, 1, none⟩) (by simp) _).set_new (p := ⟨w.heap.size + 1, 2, none⟩) (by simp) _).set_new (p := ⟨w.heap.size + 1, 3, none⟩) (by simp) _, .inl ⟨hb, rfl⟩⟩
 have Hend1 := Lib.hid hend1
 clear hend1
 by_cases h1 : 4000 < st
 ·have d1 : decide (st > 4000) = true := decide_eq_true h1
  have d2 : decide (4000 < st) = true := decide_eq_true h1
  go_wp2_with fail
  refine bodyPost_ret (v := .tuple #[.agg #[.int .i64 0, .int .i64 0, .slice none 0 0, .slice none 0 0], .int .i64 2]) (by simp [results, Tryz.results154, go_sem, z0, z1, z2, z3]) rfl ?_
  exact Hend1.out (.inl h1)
 ·have d1 : decide (st > 4000) = false := decide_eq_false h1
  have d2 : decide (4000 < st) = false := decide_eq_false h1
  by_cases h2 : 20000 < C.length
  ·have d3 : decide ((C.length : Int) > 20000) = true := decide_eq_true (by omega)
   have d4 : decide (20000 < (C.length : Int)) = true := decide_eq_true (by omega)
   go_wp2_with fail
   refine bodyPost_ret (v := .tuple #[.agg #[.int .i64 0, .int .i64 0, .slice none 0 0, .slice none 0 0], .int .i64 2]) (by simp [results, Tryz.results154, go_sem, z0, z1, z2, z3]) rfl ?_
   exact Hend1.out (.inr h2)
  ·have d3 : decide ((C.length : Int) > 20000) = false := decide_eq_false (by omega)
   have d4 : decide (20000 < (C.length : Int)) = false := decide_eq_false (by omega)
   go_wp2_with fail
   refine bodyPost_ret (v := .tuple #[.agg #[.int .i64 st, .int .i64 start, .slice fa fl fc, .slice a2 C.length c2], .int .i64 0]) (by simp [results, Tryz.results154, go_sem, z0, z1, z2, z3]) rfl ?_
   refine ⟨C, H3.out.2.2.2.2, (((H3.out.2.2.1.set_new (p := ⟨w.heap.size + 1, 0, none⟩) (by simp) _).set_new (p := ⟨w.heap.size + 1, 1, none⟩) (by simp) _).set_new (p := ⟨w.heap.size + 1, 2, none⟩) (by simp) _).set_new (p := ⟨w.heap.size + 1, 3, none⟩) (by simp) _,  .inr ⟨by unfold MadeBig; omega, a2, c2, rfl, ?_⟩⟩
   by_cases h0 : C.length = 0
   ·exact fun h => by rw [flat_length, h0] at h; simp at h
   ·have hneS : ∀ bb o, a2 = some ⟨bb, o, none⟩ → bb ≠ w.heap.size + 1 := fun bb o e => by
     have := Hap.out (by omega) bb o e; omega
    exact ((((H3.out.2.2.2.1.setC (p := ⟨w.heap.size + 1, 0, none⟩) hneS _).setC (p := ⟨w.heap.size + 1, 1, none⟩) hneS _).setC (p := ⟨w.heap.size + 1, 2, none⟩) hneS _).setC (p := ⟨w.heap.size + 1, 3, none⟩) hneS _).more (by simp)
end Go.Proofs.YthachfkcgdfdfaaGreatDoor
