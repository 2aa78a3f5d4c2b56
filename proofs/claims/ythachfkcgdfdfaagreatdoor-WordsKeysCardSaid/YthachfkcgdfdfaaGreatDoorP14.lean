/- It · Bt · SM · Y2 · US · UB · BS · BT · T1 · DB · T3 -/
import Derived.Test.YthachfkcgdfdfaaGreatDoorP11
import Derived.Test.YthachfkcgdfdfaaGreatDoorP12
import Derived.Test.YthachfkcgdfdfaaGreatDoorIter
import Derived.Deep.RegionHeld3
import Derived.BigRegion
import Derived.Sort.Walk0
import Derived.Test.YthachfkcgdfdfaaGreatDoorShelf
import Derived.Lib.SlicesCompact
import Derived.BigQuiet
import Derived.Deep.CutBlock
import Derived.Deep.QuietTactic
import Derived.Deep.AppendLies
import Derived.Deep.DeepCutAuto
/- slices.Sorted over maps.Keys at the seat's own map type: two layings put together (the text is lay-iter.mjs's). -/
namespace Go.Proofs
open Go.RowKit Go.Maps Go.Sort Go.Shelf

/-- slices.Sort's two contracts at this dump, at the fence that asks nothing. -/
theorem Tryz.sorts105 (m : Nat) : AnyZ.SortsIn Tryz.prog Tryz.sorted105_ren Fence.wide m :=
 ⟨fun blk off cap ss W hH hblk hsz => callsIn_wide.2 (AnyM.slices_Sort_string Tryz.sort174 blk off cap ss W hH hblk hsz),
 fun p cap W => callsIn_wide.2 (AnyM.slices_Sort_string_none Tryz.sort174 p cap W)⟩

/-- **maps.Keys[map[string]bool,string,bool], at whatever map, the nil one too:** a function value over ONE NEW BLOCK, which holds the map. -/
theorem Tryz.maps_Keys_106 (mb : Option Nat) (W : World) : CallsIn Fence.wide 5 Tryz.prog 106 #[.map mb] W fun e w' => e = .returned (.func (.func 175) #[] #[.pointer (some ⟨W.heap.size, 0, none⟩)]) ∧ w' = W.alloc (.cells #[.map mb] 166) :=
 AnyZ.keys_in Tryz.keys106 Fence.wide 5 trivial rfl mb W

set_option maxHeartbeats 1000000 in
/-- **slices.Sorted[string] AT WHAT maps.Keys[map[string]bool,string,bool] HANDED BACK FOR A MAP THAT IS NOT nil** ('w': the world AHEAD of maps.Keys' call): A NEW SLICE THAT HOLDS THE MAP's KEYS, SORTED; nil just where it has none; nothing that lay before has turned. -/
theorem Tryz.slices_Sorted_keys_105_106 {H : Type} (b nn : Nat) (D0 : DataW H) (R : Value → Option (DataW H × List MemPlace)) (w : World) (hown : w.ownsMap Tryz.prog 9 R b nn D0) (hmax : Maps.size D0 ≤ maxLen) (hbytes : Maps.size D0 * 16 ≤ 140737488355328) :
  CallsIn Fence.wide 5 Tryz.prog 105 #[.func (.func 175) #[] #[.pointer (some ⟨w.heap.size, 0, none⟩)]] (w.alloc (.cells #[.map (some b)] 166)) fun e w' => ∃ (v : Value) (ss : List (List UInt8)), e = .returned v ∧ ss.Perm (strKeys D0) ∧
   w'.ownsRow (w.alloc (.cells #[.map (some b)] 166)).heap.size 9 1 v ss.length ((ss.mergeSort (fun x y => decide (x ≤ y))).map encStr) ∧ (v = .slice none 0 0 ↔ ss = []) ∧ Below (w.alloc (.cells #[.map (some b)] 166)).heap.size (w.alloc (.cells #[.map (some b)] 166)) w' := by
 have hbl := hown.lt
 have hseq : SeqGives Fence.wide 2 Tryz.prog 175 #[.pointer (some ⟨w.heap.size, 0, none⟩)] encStr (fun ss => ss.Perm (strKeys D0)) (Maps.size D0) (w.alloc (.cells #[.map (some b)] 166)) :=
  AnyZ.keys_gives (ρ := Tryz.keys106_ren) { Tryz.keys106 with } Fence.wide _ trivial rfl (by omega) w.heap.size b nn D0 _ (by simp) (by simp) (by
   obtain ⟨es, clock, hb, Ft, hs, hD⟩ := hown
   exact ⟨es, clock, (Below.heap_alloc _ _ b hbl).trans hb, Ft, hs, hD⟩)
 exact AnyZ.sorted_in Tryz.sorted105 Fence.wide 5 trivial trivial trivial trivial rfl (by omega) (Tryz.sorts105 _) (enters_of Tryz.func174 (by kernel_rfl) rfl) 175 #[.pointer (some ⟨w.heap.size, 0, none⟩)] trivial (enters_of Tryz.func175 (by kernel_rfl) rfl) _ _ hmax hbytes _ hseq

end Go.Proofs
/- Texts of given bytes; machines walked by hand: no program in sight. -/
namespace Go.Proofs.YthachfkcgdfdfaaGreatDoor
open Go Classical

def bs (l : List UInt8) : ByteArray := ⟨l.toArray⟩
theorem bl_bs (l : List UInt8) : bl (bs l) = l := by simp [bl, bs]
theorem bs_size (l : List UInt8) : (bs l).size = l.length := by rw [← bl_length, bl_bs]
theorem bs_inj {l m : List UInt8} (h : bs l = bs m) : l = m := by rw [← bl_bs l, ← bl_bs m, h]
theorem after_bs (l : List UInt8) (c : Int) (hc : c ≠ 0) : afterB (bs l) c = bs (l ++ [c.toNat.toUInt8]) := by
 rw [afterB, if_neg hc]
 apply bl_inj
 rw [bl_bs]
 simp [bl, bs]
/-- What a closed list of places bounds. -/
theorem cl_sub {M : Mach} {S : Plc → Prop} {ks : List Plc} (h0 : ∀ p, S p → p ∈ ks) (h1 : ∀ p ∈ ks, ∀ a ∈ runA M.arcs p.st 0, stepA p a ∈ ks) {p : Plc} (h : Cl M S p) : p ∈ ks := by
 induction h with
 | base h => exact h0 _ h
 | more _ hg ih =>
  obtain ⟨a, ha, rfl⟩ := goes_iff.1 hg
  exact h1 _ ih a ha
theorem reach_sub {M : Mach} {l : List UInt8} {b : UInt8} (hb : b ≠ 0) {ks ks' : List Plc} (h : ∀ p, Reach M l p → p ∈ ks) (h0 : ∀ p ∈ ks, ∀ a ∈ runA M.arcs p.st (b.toNat : Int), stepA p a ∈ ks') (h1 : ∀ p ∈ ks', ∀ a ∈ runA M.arcs p.st 0, stepA p a ∈ ks') : ∀ p, Reach M (l ++ [b]) p → p ∈ ks' := by
 intro p hp
 rw [Reach_snoc M l b hb] at hp
 refine cl_sub (fun q hq => ?_) h1 hp
 unfold Setout at hq
 rw [if_neg (fun e => hb (by
  have : b.toNat = 0 := by omega
  exact UInt8.toNat_inj.1 this))] at hq
 obtain ⟨q', h2, hg⟩ := hq
 obtain ⟨a, ha, rfl⟩ := goes_iff.1 hg
 exact h0 q' (h q' h2) a ha
theorem reach_go {M : Mach} {l : List UInt8} {b : UInt8} (hb : b ≠ 0) {p : Plc} {a : Arc} (h : Reach M l p) (ha : a ∈ M.arcs) (h1 : a.frm = p.st) (h2 : a.inp = b.toNat) : Reach M (l ++ [b]) (stepA p a) := by
 rw [Reach_snoc M l b hb]
 refine .base ?_
 unfold Setout
 rw [if_neg (fun e => hb (by
  have : b.toNat = 0 := by omega
  exact UInt8.toNat_inj.1 this))]
 exact ⟨p, h, goes_iff.2 ⟨a, mem_runA.2 ⟨ha, h1, h2⟩, rfl⟩⟩
theorem reach_still {M : Mach} {l : List UInt8} {b : UInt8} (hb : b ≠ 0) {p : Plc} {a : Arc} (h : Reach M (l ++ [b]) p) (ha : a ∈ M.arcs) (h1 : a.frm = p.st) (h2 : a.inp = 0) : Reach M (l ++ [b]) (stepA p a) := by
 rw [Reach_snoc M l b hb] at h ⊢
 exact .more h (goes_iff.2 ⟨a, mem_runA.2 ⟨ha, h1, h2⟩, rfl⟩)
end Go.Proofs.YthachfkcgdfdfaaGreatDoor
/- Walk: the law's sample (gazetteerlaw13.sample). -/
namespace Go.Proofs.YthachfkcgdfdfaaGreatDoor
open Go.RowKit Classical

end Go.Proofs.YthachfkcgdfdfaaGreatDoor
/- Walks (printed by mky2.py): equality of texts (gazetteerref17.Texts), names and dense texts of package words. -/
namespace Go.Proofs.YthachfkcgdfdfaaGreatDoor
open Go.RowKit Classical
open Go.Shelf

set_option maxRecDepth 100000 in
set_option maxHeartbeats 1000000 in
theorem isNameW_any (s : ByteArray) (hs : s.size ≤ maxLen) (w : World) :
  Calls Tryz.prog 48 #[.string s] w fun e w' => e = .returned (.bool (nameB (bl s))) ∧ Below w.heap.size w w' := by
 go_enter Tryz.func48, Tryz.ntmps48
 go_wp2_with fail
 refine (Lex_any s hs w).mono ?_
 rintro e w1 ⟨va, c, err, off, T, rfl, hT, hrow, hnm, hb⟩
 have Hnm := Lib.hid hnm
 clear hnm
 by_cases he : err = 0
 ·subst he
  by_cases h1 : T.length = 1
  ·obtain ⟨t, rfl⟩ : ∃ t, T = [t] := by
    cases T with
    | nil => simp at h1
    | cons t r => cases r with
     | nil => exact ⟨t, rfl⟩
     | cons a b => simp at h1
   obtain ⟨b, o, rfl, _, hc⟩ := hrow (by simp [flatT, Tok.cells, tokCells])
   have c0 := hc 0 (.int .i64 t.kind) (by simp [flatT, Tok.cells, tokCells])
   have c3 := hc 3 (.string t.text) (by simp [flatT, Tok.cells, tokCells])
   have c0' : w1.cell? ⟨b, o, none⟩ = some (.int .i64 t.kind) := c0
   clear hc h1 hT hrow
   by_cases hk : t.kind = 1
   ·have d1 : (t.kind == 1) = true := by simp [hk]
    by_cases ht : t.text = s
    ·have d2 : (t.text.toList == s.toList) = true := by rw [ht]; simp
     have Hk := Lib.hid (And.intro hk ht)
     clear hk ht
     go_wp2_with fail
     go_ret
     refine ⟨ret_bool ?_, hb⟩
     rw [eq_comm, Hnm.out]
     exact ⟨by trivial, t, rfl, Hk.out.1, Hk.out.2⟩
    ·have d2 : (t.text.toList == s.toList) = false := by
      rw [ByteArray.toList_eq, ByteArray.toList_eq, beq_eq_false_iff_ne]; exact fun e => ht (bl_inj e)
     have Hk := Lib.hid ht
     clear hk ht
     go_wp2_with fail
     go_ret
     refine ⟨ret_bool ?_, hb⟩
     rw [eq_comm, ← Bool.not_eq_true, Hnm.out]
     rintro ⟨_, t', e, _, h2⟩
     obtain rfl : t = t' := by simpa using e
     exact Hk.out h2
   ·have d1 : (t.kind == 1) = false := by simpa using hk
    have Hk := Lib.hid hk
    clear hk
    go_wp2_with fail
    go_ret
    refine ⟨ret_bool ?_, hb⟩
    rw [eq_comm, ← Bool.not_eq_true, Hnm.out]
    rintro ⟨_, t', e, h2, _⟩
    obtain rfl : t = t' := by simpa using e
    exact Hk.out h2
  ·have d1 : ((T.length : Int) == 1) = false := by simp; omega
   have H1 := Lib.hid h1
   clear h1
   go_wp2_with fail
   go_ret
   refine ⟨ret_bool ?_, hb⟩
   rw [eq_comm, ← Bool.not_eq_true, Hnm.out]
   rintro ⟨_, t, rfl, _⟩
   exact H1.out rfl
 ·have d1 : (err == 0) = false := by simpa using he
  have He := Lib.hid he
  clear he
  go_wp2_with fail
  go_ret
  refine ⟨ret_bool ?_, hb⟩
  rw [eq_comm, ← Bool.not_eq_true, Hnm.out]
  exact fun h => He.out h.1
theorem den_low (c : UInt8) (h : c.toNat < 128) : denP c.toNat = !denC c := by
 unfold denP denC
 generalize c.toNat = n at *
 rw [Bool.eq_iff_iff]
 simp only [Bool.or_eq_true, decide_eq_true_eq, Bool.not_eq_true', Bool.and_eq_false_iff, decide_eq_false_iff_not]
 omega
theorem denC_high (c : UInt8) (h : ¬ c.toNat < 128) : denC c = false := by
 unfold denC; simp
 intros; omega
theorem idx_den (s : ByteArray) : ∀ (f pos : Nat), s.size - pos ≤ f → (0 ≤ Lib.idxFuncFrom denP true s f pos ↔ ∃ j, ∃ h : j < s.size, pos ≤ j ∧ denC s[j] = false)
 | 0, pos, hf => by
  constructor
  ·intro h; rw [Lib.idxFuncFrom] at h; exact absurd h (by decide)
  ·rintro ⟨j, h, h1, _⟩; omega
 | f + 1, pos, hf => by
  unfold Lib.idxFuncFrom
  by_cases hp : pos < s.size
  ·rw [if_pos hp]
   by_cases hlo : (s[pos]).toNat < 128
   ·rw [decode_low s pos hp hlo]
    simp only
    rw [den_low _ hlo]
    by_cases hpr : denC s[pos] = true
    ·rw [hpr, if_neg (by simp), idx_den s f (pos + 1) (by omega)]
     constructor
     ·rintro ⟨j, h, h1, h2⟩; exact ⟨j, h, by omega, h2⟩
     ·rintro ⟨j, h, h1, h2⟩
      refine ⟨j, h, ?_, h2⟩
      rcases Nat.lt_or_ge pos j with h3 | h3
      ·omega
      ·have : j = pos := by omega
       subst this
       rw [hpr] at h2; cases h2
    ·have hpr' : denC s[pos] = false := by simpa using hpr
     rw [hpr', if_pos (by simp)]
     exact ⟨fun _ => ⟨pos, hp, Nat.le_refl _, hpr'⟩, fun _ => by omega⟩
   ·have hh := decode_high s pos hp hlo
    rw [if_pos (by unfold denP; simp; omega)]
    exact ⟨fun _ => ⟨pos, hp, Nat.le_refl _, denC_high _ hlo⟩, fun _ => by omega⟩
  ·rw [if_neg hp]
   constructor
   ·intro h; exact absurd h (by decide)
   ·rintro ⟨j, h, h1, _⟩; omega
theorem contains_den (s : ByteArray) : decide (0 ≤ Lib.idxFunc denP true s) = !denB (bl s) := by
 have h := idx_den s s.size 0 (by omega)
 unfold Lib.idxFunc
 rw [Bool.eq_iff_iff, decide_eq_true_eq, h]
 simp only [denB, Bool.not_eq_true', List.all_eq_false]
 constructor
 ·rintro ⟨j, hj, _, hp⟩
  exact ⟨s[j], List.mem_of_getElem? (bl_get s j hj), by rw [hp]; simp⟩
 ·rintro ⟨c, hc, hp⟩
  obtain ⟨j, hj⟩ := List.getElem?_of_mem hc
  have hjl : j < s.size := by rw [← bl_length]; exact (List.getElem?_eq_some_iff.1 hj).1
  rw [bl_get s j hjl] at hj
  obtain rfl := Option.some.inj hj
  exact ⟨j, hjl, Nat.zero_le _, by simpa using hp⟩
set_option maxHeartbeats 1000000 in
theorem dense1_any (r : Nat) (w : World) :
  Calls Tryz.prog 73 #[.int .i32 (r : Int)] w fun e w' => e = .returned (.bool (denP r)) ∧ w' = w := by
 go_enter Tryz.func73, Tryz.ntmps73
 go_wp2
 all_goals (go_ret; refine ⟨ret_bool ?_, rfl⟩; unfold denP; rw [Bool.eq_iff_iff]; simp [*]; try omega)
set_option maxRecDepth 100000 in
set_option maxHeartbeats 1000000 in
theorem dense_any (s : ByteArray) (b : Nat) (w : World) :
  Calls Tryz.prog 35 #[.string s, .int .i64 b] w fun e w' => e = .returned (.bool (decide (Dense s b))) ∧ Below w.heap.size w w' := by
 have hC := fun w => Tryz.strings_ContainsFunc 73 #[] (enters_of Tryz.func73 (by kernel_rfl) rfl) denP s w (fun W x _ => (dense1_any x W).mono fun e w' h => ⟨h.1, 0, by rw [h.2]; rfl⟩)
 rw [contains_den] at hC
 have HC := Lib.hid hC
 clear hC
 go_enter Tryz.func35, Tryz.ntmps35
 by_cases h1 : bl s = []
 ·have e1 : s.toList.isEmpty = true := (empty_iff s).2 h1
  have e2 : s.size = 0 := by rw [← bl_length, h1]; rfl
  have H := Lib.hid e2
  clear h1 e2
  go_wp2_with fail
  go_ret
  exact ⟨ret_no (fun h => by have := h.2.1; have := H.out; omega), Below.refl _ _⟩
 ·have e1 : s.toList.isEmpty = false := by
   have := mt (empty_iff s).1 h1
   simpa using this
  have e2 : 1 ≤ s.size := by
   rcases Nat.eq_zero_or_pos s.size with h | h
   ·exact absurd (List.eq_nil_of_length_eq_zero (by rw [bl_length]; exact h)) h1
   ·exact h
  clear h1
  by_cases h2 : s.size ≤ b
  ·have h2' : decide ((s.size : Int) ≤ (b : Int)) = true := by simpa using h2
   go_wp2_with fail
   refine (HC.out _).mono ?_
   rintro e w1 ⟨rfl, hb⟩
   go_wp2_with fail
   all_goals
    go_ret
    refine ⟨ret_dec ?_, hb⟩
    simp [Dense, e2, h2]
  ·go_wp2_with fail
   go_ret
   exact ⟨ret_no (fun h => h2 h.2.2), Below.refl _ _⟩
end Go.Proofs.YthachfkcgdfdfaaGreatDoor
/- Texts and their order: cmp.Compare at texts. -/
namespace Go.Proofs.YthachfkcgdfdfaaGreatDoor
open Go.RowKit Go.Sort Classical

def cmpS (a b : ByteArray) : Int := if Op.bytesLess a.toList b.toList = true then -1 else if (a.toList == b.toList) = true then 0 else 1
theorem bless {a b : ByteArray} : Op.bytesLess a.toList b.toList = true ↔ bl a < bl b := by
 rw [bytesLess_eq, decide_eq_true_eq, ByteArray.toList_eq, ByteArray.toList_eq]
 rfl
theorem cmpS_lt {a b : ByteArray} : cmpS a b < 0 ↔ bl a < bl b := by
 unfold cmpS
 by_cases h : Op.bytesLess a.toList b.toList = true
 ·rw [if_pos h]
  exact ⟨fun _ => bless.1 h, fun _ => by omega⟩
 ·rw [if_neg h]
  refine ⟨fun e => ?_, fun e => absurd (bless.2 e) h⟩
  split at e <;> omega
theorem cmpS_eq {a b : ByteArray} : cmpS a b = 0 ↔ a = b := by
 unfold cmpS
 split
 ·rename_i h
  have h := bless.1 h
  refine ⟨fun e => by simp at e, fun e => ?_⟩
  subst e
  exact absurd h (List.lt_irrefl _)
 ·split
  ·rename_i h
   rw [beq_iff_eq, ByteArray.toList_eq, ByteArray.toList_eq] at h
   exact ⟨fun _ => bl_inj h, fun _ => rfl⟩
  ·rename_i h
   refine ⟨fun e => by simp at e, fun e => ?_⟩
   subst e
   simp at h
theorem isNaNs_any (s : ByteArray) (w : World) : Calls Tryz.prog 132 #[.string s] w fun e w' => e = .returned (.bool false) ∧ w' = w := by
 go_enter Tryz.func132, Tryz.ntmps132
 go_wp2
 go_ret
 exact ⟨by simp, rfl⟩
set_option maxRecDepth 100000 in
set_option maxHeartbeats 1000000 in
theorem cmpS_any (a b : ByteArray) (w : World) : Calls Tryz.prog 80 #[.string a, .string b] w fun e w' => e = .returned (.int .i64 (cmpS a b)) ∧ w' = w := by
 go_enter Tryz.func80, Tryz.ntmps80
 have hn := fun s w => isNaNs_any s w
 go_wp2_with fail
 refine (hn _ _).mono ?_
 rintro e w' ⟨rfl, hw⟩
 subst hw
 go_wp2_with fail
 refine (hn _ _).mono ?_
 rintro e w' ⟨rfl, hw⟩
 subst hw
 go_wp2_with fail
 all_goals go_ret
 all_goals refine ⟨?_, rfl⟩
 all_goals unfold cmpS
 all_goals simp_all
end Go.Proofs.YthachfkcgdfdfaaGreatDoor
/- Plain words: the order of spelled lists; what Spell answers. No program in sight. -/
namespace Go.Proofs.YthachfkcgdfdfaaGreatDoor
open Go Classical

/-- Lists of texts, compared text by text. -/
def cmpL : List ByteArray → List ByteArray → Int
 | [], [] => 0
 | [], _ :: _ => -1
 | _ :: _, [] => 1
 | a :: xs, b :: ys => if cmpS a b = 0 then cmpL xs ys else cmpS a b
theorem cmpS_self (a : ByteArray) : cmpS a a = 0 := cmpS_eq.2 rfl
theorem cmpS_trans {a b c : ByteArray} (h : cmpS a b < 0) (k : cmpS b c < 0) : cmpS a c < 0 := cmpS_lt.2 (List.lt_trans (cmpS_lt.1 h) (cmpS_lt.1 k))
theorem cmpS_tri (a b : ByteArray) : cmpS a b < 0 ∨ a = b ∨ cmpS b a < 0 := by
 rcases Classical.em (bl a < bl b) with h | h
 ·exact .inl (cmpS_lt.2 h)
 ·rcases Classical.em (bl b < bl a) with k | k
  ·exact .inr (.inr (cmpS_lt.2 k))
  ·exact .inr (.inl (bl_inj (List.le_antisymm (List.not_lt.1 k) (List.not_lt.1 h))))
theorem cmpL_eq : ∀ {a b : List ByteArray}, cmpL a b = 0 ↔ a = b
 | [], [] => by simp [cmpL]
 | [], _ :: _ => by simp [cmpL]
 | _ :: _, [] => by simp [cmpL]
 | a :: xs, b :: ys => by
  rw [cmpL]
  split
  ·rename_i h
   have := cmpS_eq.1 h
   rw [cmpL_eq, this]
   simp
  ·rename_i h
   constructor
   ·intro e; exact absurd e h
   ·intro e
    obtain ⟨rfl, rfl⟩ := List.cons.inj e
    exact absurd (cmpS_self a) h
theorem cmpL_cons {a b : ByteArray} {xs ys : List ByteArray} : cmpL (a :: xs) (b :: ys) < 0 ↔ cmpS a b < 0 ∨ (a = b ∧ cmpL xs ys < 0) := by
 rw [cmpL]
 split
 ·rename_i h
  have e := cmpS_eq.1 h
  constructor
  ·intro q; exact .inr ⟨e, q⟩
  ·rintro (q | ⟨_, q⟩)
   ·omega
   ·exact q
 ·rename_i h
  constructor
  ·intro q; exact .inl q
  ·rintro (q | ⟨rfl, _⟩)
   ·exact q
   ·exact absurd (cmpS_self a) h
theorem cmpL_trans : ∀ {a b c : List ByteArray}, cmpL a b < 0 → cmpL b c < 0 → cmpL a c < 0
 | [], [], _, h, _ => by simp [cmpL] at h
 | _ :: _, [], _, h, _ => by simp [cmpL] at h
 | _, _ :: _, [], _, k => by simp [cmpL] at k
 | [], _ :: _, _ :: _, _, _ => by simp [cmpL]
 | a :: xs, b :: ys, c :: zs, h, k => by
  rw [cmpL_cons] at h k ⊢
  rcases h with h | ⟨rfl, h⟩ <;> rcases k with k | ⟨rfl, k⟩
  ·exact .inl (cmpS_trans h k)
  ·exact .inl h
  ·exact .inl k
  ·exact .inr ⟨rfl, cmpL_trans h k⟩
theorem cmpL_tri : ∀ (a b : List ByteArray), cmpL a b < 0 ∨ a = b ∨ cmpL b a < 0
 | [], [] => .inr (.inl rfl)
 | [], _ :: _ => .inl (by simp [cmpL])
 | _ :: _, [] => .inr (.inr (by simp [cmpL]))
 | a :: xs, b :: ys => by
  rw [cmpL_cons, cmpL_cons]
  rcases cmpS_tri a b with h | rfl | h
  ·exact .inl (.inl h)
  ·rcases cmpL_tri xs ys with h | rfl | h
   ·exact .inl (.inr ⟨rfl, h⟩)
   ·exact .inr (.inl rfl)
   ·exact .inr (.inr (.inr ⟨rfl, h⟩))
  ·exact .inr (.inr (.inl h))

/-- A spelled list comes before another one. -/
def ltX (x y : List ByteArray × Int) : Prop := x.2 < y.2 ∨ (x.2 = y.2 ∧ cmpL x.1 y.1 < 0)
theorem ltX_trans {x y z : List ByteArray × Int} (h : ltX x y) (k : ltX y z) : ltX x z := by
 unfold ltX at *
 rcases h with h | ⟨h, h'⟩ <;> rcases k with k | ⟨k, k'⟩
 ·exact .inl (by omega)
 ·exact .inl (by omega)
 ·exact .inl (by omega)
 ·exact .inr ⟨by omega, cmpL_trans h' k'⟩
theorem ltX_irrefl (x : List ByteArray × Int) : ¬ ltX x x := by
 unfold ltX
 rintro (h | ⟨_, h⟩)
 ·omega
 ·rw [cmpL_eq.2 rfl] at h; omega
theorem ltX_tri (x y : List ByteArray × Int) : ltX x y ∨ x = y ∨ ltX y x := by
 obtain ⟨a, c⟩ := x
 obtain ⟨b, d⟩ := y
 unfold ltX
 rcases Int.lt_trichotomy c d with h | rfl | h
 ·exact .inl (.inl h)
 ·rcases cmpL_tri a b with h | rfl | h
  ·exact .inl (.inr ⟨rfl, h⟩)
  ·exact .inr (.inl rfl)
  ·exact .inr (.inr (.inr ⟨rfl, h⟩))
 ·exact .inr (.inr (.inl h))
def SortedX (l : List (List ByteArray × Int)) : Prop := l.Pairwise ltX
theorem SortedX.ext {a b : List (List ByteArray × Int)} (ha : SortedX a) (hb : SortedX b) (h : ∀ x, x ∈ a ↔ x ∈ b) : a = b := by
 have nd : ∀ {a : List (List ByteArray × Int)}, SortedX a → a.Nodup := fun {a} q => q.imp (fun hlt e => by subst e; exact ltX_irrefl _ hlt)
 have hp : a.Perm b := (List.perm_ext_iff_of_nodup (nd ha) (nd hb)).2 h
 refine List.Perm.eq_of_pairwise (le := fun x y => ltX x y ∨ x = y) (fun x y _ _ h1 h2 => ?_) (ha.imp .inl) (hb.imp .inl) hp
 rcases h1 with h1 | h1
 ·rcases h2 with h2 | h2
  ·exact absurd (ltX_trans h1 h2) (ltX_irrefl x)
  ·exact h2.symm
 ·exact h1

/-- Abbreviations are proper; words are plain. -/
structure Proper (l : List Sht) : Prop where
 most : l.length ≤ 100
 each : ∀ s ∈ l, nameB (bl s.lang) = true ∧ Dense s.short 24 ∧ Dense s.full 24 ∧ 0 ≤ s.cost ∧ s.cost ≤ 1000
 once : l.Nodup
def Plain (W : List ByteArray) : Prop := 1 ≤ W.length ∧ W.length ≤ 12 ∧ ∀ w ∈ W, Dense w 120
/-- The choices of words. -/
noncomputable def chsW (l : List Sht) (W : List ByteArray) : List (List (ByteArray × Int)) := W.map (chs l)
/-- What Spell answers. -/
def SpellOf (l : List Sht) (W : List ByteArray) (all : List (List ByteArray × Int)) (err : Int) : Prop :=
 (¬ (Proper l ∧ Plain W) ∧ all = [] ∧ err = 1) ∨ ((Proper l ∧ Plain W) ∧ 64 < prodN (chsW l W) ∧ all = [] ∧ err = 2) ∨
 ((Proper l ∧ Plain W) ∧ prodN (chsW l W) ≤ 64 ∧ err = 0 ∧ SortedX all ∧ all.length = prodN (chsW l W) ∧ ∀ x, x ∈ all ↔ ∃ ps, Picks (chsW l W) ps ∧ x = (ps.map (·.1), sumC ps))
end Go.Proofs.YthachfkcgdfdfaaGreatDoor
/- Walks: texts at blanks: strings.Cut, strings.Split; the parts of a text as a sequence (words.parts). -/
namespace Go.Proofs.YthachfkcgdfdfaaGreatDoor
open Go.RowKit Go.Shelf Classical
attribute [local go_sem] Oper.semAt_some

theorem idx_split : ∀ l : List UInt8, (32 ∉ l ∧ Lib.indexByte l 32 = -1) ∨ ∃ a r, l = a ++ 32 :: r ∧ 32 ∉ a ∧ Lib.indexByte l 32 = (a.length : Int)
 | [] => .inl ⟨by simp, rfl⟩
 | c :: l => by
  by_cases hc : c = 32
  ·subst hc
   exact .inr ⟨[], l, rfl, by simp, by simp [Lib.indexByte]⟩
  ·have hb : (c == 32) = false := by simpa using hc
   rcases idx_split l with ⟨h1, h2⟩ | ⟨a, r, h1, h2, h3⟩
   ·exact .inl ⟨by simp only [List.mem_cons, not_or]; exact ⟨fun e => hc e.symm, h1⟩, by simp [Lib.indexByte, hb, h2]⟩
   ·refine .inr ⟨c :: a, r, by rw [h1]; rfl, by simp only [List.mem_cons, not_or]; exact ⟨fun e => hc e.symm, h2⟩, ?_⟩
    have : ¬ ((a.length : Int) = -1) := by omega
    simp [Lib.indexByte, hb, h3, this]
def blank : ByteArray := ⟨#[32]⟩
theorem lCut_no (s : ByteArray) (h : 32 ∉ bl s) (w : World) :
  Calls Tryz.prog 107 #[.string s, .string ⟨#[32]⟩] w fun e w' => e = .returned (.tuple #[.string s, .string ⟨#[]⟩, .bool false]) ∧ w' = w := by
 have hi : Lib.indexByte s.data.toList 32 = -1 := by
  rcases idx_split (bl s) with ⟨_, e⟩ | ⟨a, r, e, _⟩
  ·exact e
  ·exact absurd (by rw [e]; simp) h
 have hI := Tryz.stringslite_Index_one s 32 w
 rw [hi] at hI
 have HI := Lib.hid hI
 clear hI hi h
 go_enter Tryz.func107, Tryz.ntmps107
 go_wp2_with (go_at_call 176; refine HI.out.mono ?_; rintro e w' ⟨rfl, hw⟩; subst hw)
 go_ret3
 exact ⟨rfl, rfl⟩
set_option maxHeartbeats 1000000 in
theorem lCut_yes (s : ByteArray) (hs : s.size ≤ maxLen) {a r : List UInt8} (he : bl s = a ++ 32 :: r) (ha : 32 ∉ a) (w : World) :
  Calls Tryz.prog 107 #[.string s, .string ⟨#[32]⟩] w fun e w' => e = .returned (.tuple #[.string (bs a), .string (bs r), .bool true]) ∧ ∃ n, w' = w.drewN n := by
 unfold maxLen at hs
 obtain ⟨k, hk⟩ : ∃ k, k = a.length := ⟨_, rfl⟩
 have hlen : s.size = k + 1 + r.length := by rw [← bl_length, he, hk]; simp; omega
 have hi : Lib.indexByte s.data.toList 32 = (k : Int) := by
  rcases idx_split (bl s) with ⟨e, _⟩ | ⟨a', r', e, h1, h2⟩
  ·exact absurd (by rw [he]; simp) e
  ·have h2' : Lib.indexByte s.data.toList 32 = (a'.length : Int) := h2
   rw [h2', hk]
   rw [he] at e
   have : a = a' := by
    have hx : ∀ (x y u v : List UInt8), x ++ 32 :: u = y ++ 32 :: v → 32 ∉ x → 32 ∉ y → x = y := by
     intro x
     induction x with
     | nil =>
      intro y u v e _ hy
      cases y with
      | nil => rfl
      | cons c y => simp at e; exact absurd (by rw [← e.1]; simp) hy
     | cons c x ih =>
      intro y u v e hx hy
      cases y with
      | nil => simp at e; exact absurd (by rw [e.1]; simp) hx
      | cons d y =>
       simp at e
       obtain ⟨rfl, e⟩ := e
       rw [ih y u v e (fun q => hx (List.mem_cons_of_mem _ q)) (fun q => hy (List.mem_cons_of_mem _ q))]
    exact hx a a' r r' e ha h1
   rw [this]
 have e1 : s.extract 0 k = bs a := by
  apply bl_inj
  rw [bl_bs]
  unfold bl
  rw [Lib.extract_data]
  show ((bl s).drop 0).take (k - 0) = a
  rw [he, hk]; simp
 have e2 : s.extract (k + 1) s.size = bs r := by
  apply bl_inj
  rw [bl_bs]
  unfold bl
  rw [Lib.extract_data]
  show ((bl s).drop (k + 1)).take (s.size - (k + 1)) = r
  rw [he, hlen, hk, List.drop_append, List.drop_of_length_le (Nat.le_succ _)]; simp
 have hI := Tryz.stringslite_Index_one s 32 w
 rw [hi] at hI
 have HI := Lib.hid hI
 have E1 := Lib.hid (And.intro e1 e2)
 clear hI hi he ha e1 e2 hk
 have hks : (k : Int) ≤ (s.size : Int) := by omega
 have hw1 : IntKind.i64.wrap ((k : Int) + 1) = (k : Int) + 1 := IntWalk.i64_in _ (by omega)
 have hw2 : 0 ≤ (k : Int) + 1 := by omega
 have hw3 : ((k : Int) + 1).toNat = k + 1 := by omega
 have hw4 : (k : Int) + 1 ≤ (s.size : Int) := by omega
 clear hlen
 go_enter Tryz.func107, Tryz.ntmps107
 go_wp2_with (go_at_call 176; refine HI.out.mono ?_; rintro e w' ⟨rfl, hw⟩; subst hw)
 go_quiet (fail)
 go_wp2
 go_ret3
 refine ⟨?_, _, rfl⟩
 show Ending.returned (.tuple #[.string (s.extract 0 k), .string (s.extract (k + 1) s.size), .bool true]) = _
 rw [E1.out.1, E1.out.2]
theorem Cut_no (s : ByteArray) (h : 32 ∉ bl s) (w : World) :
  Calls Tryz.prog 65 #[.string s, .string ⟨#[32]⟩] w fun e w' => e = .returned (.tuple #[.string s, .string ⟨#[]⟩, .bool false]) ∧ w' = w := by
 have HI := Lib.hid (lCut_no s h w)
 clear h
 go_enter Tryz.func65, Tryz.ntmps65
 go_wp2_with (go_at_call 107; refine HI.out.mono ?_; rintro e w' ⟨rfl, hw⟩; subst hw)
 go_ret3
 exact ⟨rfl, rfl⟩
theorem Cut_yes (s : ByteArray) (hs : s.size ≤ maxLen) {a r : List UInt8} (he : bl s = a ++ 32 :: r) (ha : 32 ∉ a) (w : World) :
  Calls Tryz.prog 65 #[.string s, .string ⟨#[32]⟩] w fun e w' => e = .returned (.tuple #[.string (bs a), .string (bs r), .bool true]) ∧ ∃ n, w' = w.drewN n := by
 have HI := Lib.hid (lCut_yes s hs he ha w)
 clear he ha
 go_enter Tryz.func65, Tryz.ntmps65
 go_wp2_with (go_at_call 107; refine HI.out.mono ?_; rintro e w' ⟨rfl, n, hw⟩; subst hw)
 go_ret3
 exact ⟨rfl, _, rfl⟩

/-- What is left in the iterator's box. -/
def leftAt (Bt : Nat) (w : World) : Nat := match w.cell? ⟨Bt, 0, none⟩ with
 | some (.string s) => s.size
 | _ => 0
theorem leftAt_of {Bt : Nat} {w : World} {s : ByteArray} {t : TypeId} (h : Blk w Bt #[.string s] t) : leftAt Bt w = s.size := by
 have c0 : w.cell? ⟨Bt, 0, none⟩ = some (.string s) := h.cell 0
 unfold leftAt
 rw [c0]
theorem blank_cases (l : List UInt8) : 32 ∉ l ∨ ∃ a r, l = a ++ 32 :: r ∧ 32 ∉ a := by
 rcases idx_split l with ⟨h, _⟩ | ⟨a, r, h1, h2, _⟩
 ·exact .inl h
 ·exact .inr ⟨a, r, h1, h2⟩
set_option maxRecDepth 100000 in
set_option maxHeartbeats 2000000 in
theorem parts1_in (n : Nat) (hn : 1 ≤ n) (y Bt : Nat) (s : ByteArray) (hs : s.size ≤ maxLen) (J Jx : List ByteArray → World → Prop) (Kp : World → World → Prop)
  (hJ : ∀ p W W', J p W → Below W.heap.size W W' → J p W') (hT : ∀ p X v, J p X → J p (X.setCell ⟨Bt, 0, none⟩ (.string v))) (hKp : ∀ W W', Kp W W' → W'.heap[Bt]? = W.heap[Bt]?)
  (hY : ∀ pre x W, J pre W → (pre ++ [x]).map bl <+: wordsOf (bl s) → YieldAt Fence.wide (n - 1) Tryz.prog y #[.string x] W fun e W' =>
   (e = .returned (.bool true) ∧ J (pre ++ [x]) W' ∧ Kp W W') ∨ (e = .returned (.bool false) ∧ Jx (pre ++ [x]) W'))
  (W : World) (hB : Blk W Bt #[.string s] 9) (h0 : J [] W) :
  CallsIn Fence.wide n Tryz.prog 64 #[.func (.yield y) #[] #[], .pointer (some ⟨Bt, 0, none⟩)] W fun e W' => (∃ v, e = .returned v) ∧
   ((∃ ys : List ByteArray, ys.map bl = wordsOf (bl s) ∧ J ys W') ∨ (∃ pre : List ByteArray, pre.map bl <+: wordsOf (bl s) ∧ Jx pre W')) := by
 refine callsIn_of_wp Tryz.func64 rfl trivial ?_ rfl
 simp only [Tryz.ntmps64, List.size_toArray, List.length_cons, List.length_nil, Nat.reduceAdd, Nat.reduceSub, Array.replicate_succ, Array.replicate_zero, List.push_toArray, List.append_toArray, List.nil_append, List.cons_append]
 obtain ⟨SQ, hSQ⟩ : ∃ SQ, wordsOf (bl s) = SQ := ⟨_, rfl⟩
 rw [hSQ] at hY ⊢
 have HSQ := Lib.hid hSQ
 have HB := Lib.hid hB
 have H0 := Lib.hid h0
 clear hSQ hB h0
 gi_wp2
 gi_loopw [3] (fun _ wr => ∃ (cur : ByteArray) (pre : List ByteArray), SQ = pre.map bl ++ wordsOf (bl cur) ∧ cur.size ≤ s.size ∧ Blk wr Bt #[.string cur] 9 ∧ J pre wr) (fun _ wr => leftAt Bt wr)
 case atStart => exact ⟨s, [], by rw [← HSQ.out]; rfl, Nat.le_refl _, HB.out, H0.out⟩
 case round =>
  obtain ⟨cur, pre, hsq, hle, hb, hJs⟩ := hrel
  have Hsq := Lib.hid hsq
  have HJs := Lib.hid hJs
  have Hm := Lib.hid (leftAt_of hb)
  have Hb := Lib.hid hb
  have c0 : wr.cell? ⟨Bt, 0, none⟩ = some (.string cur) := hb.cell 0
  have f0 := hb.frozen 0
  clear hsq hJs hb
  by_cases he : bl cur = []
  ·have e1 := nil_yes he
   have e2 := (empty_iff cur).2 he
   have He := Lib.hid he
   clear he
   gi_wp2
   go_end0
   exact ⟨⟨_, rfl⟩, .inl ⟨pre, by rw [Hsq.out, He.out, wordsOf_nil, List.append_nil], HJs.out⟩⟩
  ·have e2 := empty_no he
   have He := Lib.hid he
   have hpos : 0 < cur.size := by
    rcases Nat.eq_zero_or_pos cur.size with h | h
    ·exact absurd (List.eq_nil_of_length_eq_zero (by rw [bl_length]; exact h)) he
    ·exact h
   clear he
   rcases blank_cases (bl cur) with hno | ⟨a, r, hab, ha⟩
   ·have hsq2 : SQ = pre.map bl ++ [bl cur] := by rw [Hsq.out, wordsOf_last hno, if_neg He.out]
    have Hsq2 := Lib.hid hsq2
    have HC := Lib.hid (Cut_no cur hno wr)
    clear hsq2 hno
    gi_wp2_with (refine ⟨trivial, ?_⟩; gi_at_call 65; refine (callsIn_wide.2 HC.out).mono ?_; rintro e w1 ⟨rfl, hw⟩; subst w1; obtain ⟨fn, tmps, assign, body, hy, hR⟩ := hY pre cur wr HJs.out (by rw [Hsq2.out]; exact ⟨[], by simp⟩))
    refine hR.mono ?_
    rintro e W3 (⟨rfl, hJ3, hk3⟩ | ⟨rfl, hJx3⟩)
    ·have hb3 : Blk W3 Bt #[.string cur] 9 := (hKp _ _ hk3).trans Hb.out
     have c3 : W3.cell? ⟨Bt, 0, none⟩ = some (.string cur) := hb3.cell 0
     have f3 := hb3.frozen 0
     gi_wp2
     have hb4 : Blk (W3.setCell ⟨Bt, 0, none⟩ (.string ⟨#[]⟩)) Bt #[.string ⟨#[]⟩] 9 := hb3.set_ 0 _
     exact ⟨⟨⟨#[]⟩, pre ++ [cur], by rw [Hsq2.out]; simp [bl, wordsOf_nil], Nat.zero_le _, hb4, hT _ _ _ hJ3⟩, by rw [leftAt_of hb4, Hm.out]; exact hpos⟩
    ·gi_wp2
     refine bodyPost_ret (results_none rfl _ _ _) rfl ?_
     exact ⟨⟨_, rfl⟩, .inr ⟨_, by rw [Hsq2.out]; exact ⟨[], by simp⟩, hJx3⟩⟩
   ·have hsq2 : SQ = pre.map bl ++ ((if a = [] then [] else [a]) ++ wordsOf r) := by rw [Hsq.out, hab, wordsOf_cut ha]
    have Hsq2 := Lib.hid hsq2
    have HC := Lib.hid (Cut_yes cur (by omega) hab ha wr)
    have hrl : (bs r).size < cur.size := by
     rw [bs_size, ← bl_length cur, hab]; simp; omega
    clear hsq2 hab ha
    by_cases hae : a = []
    ·have hx1 : (bs a).toList = [] := nil_yes (by rw [bl_bs]; exact hae)
     have hx2 := (empty_iff (bs a)).2 (by rw [bl_bs]; exact hae)
     have hsq3 : SQ = pre.map bl ++ wordsOf (bl (bs r)) := by rw [Hsq2.out, if_pos hae, bl_bs]; rfl
     have Hsq3 := Lib.hid hsq3
     clear hsq3 hae
     gi_wp2_with (refine ⟨trivial, ?_⟩; gi_at_call 65; refine (callsIn_wide.2 HC.out).mono ?_; rintro e w1 ⟨rfl, nd, hw⟩; subst w1)
     refine ⟨fun _ h => (by cases h), ?_⟩
     gi_wp2
     have hJ1 := hJ _ _ _ HJs.out (Go.below_drewN (Below.refl _ wr) nd)
     have hb4 : Blk ((wr.drewN nd).setCell ⟨Bt, 0, none⟩ (.string (bs r))) Bt #[.string (bs r)] 9 := (Hb.out.drewN nd).set_ 0 _
     exact ⟨⟨bs r, pre, Hsq3.out, by omega, hb4, hT _ _ _ hJ1⟩, by rw [leftAt_of hb4, Hm.out]; exact hrl⟩
    ·have hx1 := empty_no (s := bs a) (by rw [bl_bs]; exact hae)
     have hsq3 : SQ = (pre ++ [bs a]).map bl ++ wordsOf (bl (bs r)) := by rw [Hsq2.out, if_neg hae, List.map_append, bl_bs, List.append_assoc]; simp [bl_bs]
     have Hsq3 := Lib.hid hsq3
     clear hsq3 hae
     gi_wp2_with (refine ⟨trivial, ?_⟩; gi_at_call 65; refine (callsIn_wide.2 HC.out).mono ?_; rintro e w1 ⟨rfl, nd, hw⟩; subst w1; obtain ⟨fn, tmps, assign, body, hy, hR⟩ := hY pre (bs a) (wr.drewN nd) (hJ _ _ _ HJs.out (Go.below_drewN (Below.refl _ wr) nd)) (by rw [Hsq3.out]; exact ⟨_, rfl⟩))
     refine hR.mono ?_
     rintro e W3 (⟨rfl, hJ3, hk3⟩ | ⟨rfl, hJx3⟩)
     ·have hb3 : Blk W3 Bt #[.string cur] 9 := (hKp _ _ hk3).trans (Hb.out.drewN nd)
      have c3 : W3.cell? ⟨Bt, 0, none⟩ = some (.string cur) := hb3.cell 0
      have f3 := hb3.frozen 0
      gi_wp2
      have hb4 : Blk (W3.setCell ⟨Bt, 0, none⟩ (.string (bs r))) Bt #[.string (bs r)] 9 := hb3.set_ 0 _
      exact ⟨⟨bs r, pre ++ [bs a], Hsq3.out, by omega, hb4, hT _ _ _ hJ3⟩, by rw [leftAt_of hb4, Hm.out]; exact hrl⟩
     ·gi_wp2
      refine bodyPost_ret (results_none rfl _ _ _) rfl ?_
      exact ⟨⟨_, rfl⟩, .inr ⟨_, by rw [Hsq3.out]; exact ⟨_, rfl⟩, hJx3⟩⟩

/-- The turns of the iterator of words.parts: what is left of its text. -/
def TurnT (Bt : Nat) (X Y : World) : Prop := ∃ v : ByteArray, Y = X.setCell ⟨Bt, 0, none⟩ (.string v)
def KeepT (Bt : Nat) (X Y : World) : Prop := Y.heap[Bt]? = X.heap[Bt]?
theorem parts_seq (n : Nat) (hn : 1 ≤ n) (Bt : Nat) (s : ByteArray) (hs : s.size ≤ maxLen) (W : World) (hB : Blk W Bt #[.string s] 9) :
  SeqTurns Fence.wide n Tryz.prog 64 #[.pointer (some ⟨Bt, 0, none⟩)] (fun x : ByteArray => #[.string x]) (KeepT Bt) (TurnT Bt) (fun ys => ys.map bl = wordsOf (bl s)) (fun pre => pre.map bl <+: wordsOf (bl s)) (fun pre x => (pre ++ [x]).map bl <+: wordsOf (bl s)) W := by
 intro y J Jx W1 hW hJ hJx hT hTx hY h0
 exact parts1_in n hn y Bt s hs J Jx (KeepT Bt) (fun p X Y h hb => hJ p X Y none h (grown_of_below hb none) (by simp)) (fun p X v h => hT p X _ h ⟨v, rfl⟩) (fun _ _ h => h) hY W1 (hB.below hW hB.lt) h0
theorem parts_any (s : ByteArray) (w : World) :
  Calls Tryz.prog 31 #[.string s] w fun e w' => e = .returned (.func (.func 64) #[] #[.pointer (some ⟨w.heap.size, 0, none⟩)]) ∧ w' = w.alloc (.cells #[.string s] 9) := by
 go_enter Tryz.func31, Tryz.ntmps31
 go_wp2
 go_ret
 exact ⟨rfl, rfl⟩
end Go.Proofs.YthachfkcgdfdfaaGreatDoor
/- Walks: words.Split: the parts of a text between blanks, collected. -/
namespace Go.Proofs.YthachfkcgdfdfaaGreatDoor
open Go.RowKit Go.Shelf Classical
attribute [local go_sem] Oper.semAt_some

section
variable {S : Nat → Prop} {w X Y : World}
theorem Chg.grown_from {row : Option Nat} (h : Chg S w X) (hg : X.grownBy Y row) (hr : ∀ r, row = some r → w.heap.size ≤ r) : Chg S w Y :=
 ⟨hg.os.trans h.os, hg.tape.trans h.tape, hg.output.trans h.output, Nat.le_trans h.size hg.size, fun k hk hS => (hg.block k (Nat.lt_of_lt_of_le hk h.size) (fun e => by have := hr k e.symm; omega)).trans (h.block k hk hS)⟩
theorem Chg.more_below {B : Nat} (h : Chg S w X) (hb : Below B X Y) (hB : w.heap.size ≤ B) : Chg S w Y :=
 ⟨hb.os.trans h.os, hb.tape.trans h.tape, hb.output.trans h.output, Nat.le_trans h.size hb.size, fun k hk hS => (hb.block k (by omega)).trans (h.block k hk hS)⟩
theorem Chg.set_in {b : Nat} (h : Chg S w X) (hS : S b) (i : Nat) (u : Value) : Chg S w (X.setCell ⟨b, i, none⟩ u) := h.trans (Chg.setCell X (.inl hS) u)
end
theorem info_str17 : (Tryz.prog.info? 9).map (fun i => (i.zero, i.size, i.bytes)) = some (some (.string ByteArray.empty), 1, 16) := by kernel_rfl
theorem own_up {w w' : World} {base : Nat} {e : TypeId} {size n : Nat} {v : Value} {xs : List Value} (h : w.ownsRow base e size v n xs) {S : Nat → Prop} (hc : Chg S w w') (hS : ∀ k, S k → k < base) : w'.ownsRow base e size v n xs :=
 own_chg h hc (fun g hg hs => by have := hS g hs; have := (h.lt g hg).1; omega)

/-- Between two rounds of the loop that collects. -/
def AppI (w : World) (Bt : Nat) (pre : List ByteArray) (W : World) : Prop :=
 (∃ v, Boxed W w.heap.size 29 v ∧ W.ownsRow w.heap.size 9 1 v pre.length (strs pre) ∧ True) ∧ Chg (fun k => k = Bt) w W
def CollPost (Bt : Nat) (s : ByteArray) (w : World) (e : Ending) (w' : World) : Prop :=
 ∃ (v : Value) (ys : List ByteArray), e = .returned v ∧ ys.map bl = wordsOf (bl s) ∧ w'.ownsRow w.heap.size 9 1 v ys.length (strs ys) ∧ Chg (fun k => k = Bt) w w'

set_option maxRecDepth 100000 in
set_option maxHeartbeats 2000000 in
theorem appendSeq_any (Bt : Nat) (s : ByteArray) (hs : s.size ≤ 1000000000) (w : World) (hB : Blk w Bt #[.string s] 9) :
  Calls Tryz.prog 94 #[.slice none 0 0, .func (.func 64) #[] #[.pointer (some ⟨Bt, 0, none⟩)]] w (CollPost Bt s w) := by
 obtain ⟨i0, hi, hz0, hz1, hz2⟩ := info_parts info_str17
 refine (callsIn_wide (n := 5)).1 ?_
 refine callsIn_of_wp_marks Tryz.func94 rfl trivial ?_ rfl
 simp only [Tryz.ntmps94, List.size_toArray, List.length_cons, List.length_nil, Nat.reduceAdd, Nat.reduceSub, Array.replicate_succ, Array.replicate_zero, List.push_toArray, List.append_toArray, List.nil_append, List.cons_append]
 gi_wp2
 have hBt := hB.lt
 have hlen : (wordsOf (bl s)).length ≤ 1000000000 := Nat.le_trans (wordsOf_len _) (by rw [bl_length]; exact hs)
 have hb0 : Below w.heap.size w (w.alloc (.cells #[.slice none 0 0] 29)) := (Below.refl _ _).alloc (Nat.le_refl _) _
 have hB0 := hB.below hb0 hBt
 obtain ⟨o, ho⟩ : ∃ o, w.heap.size = o := ⟨_, rfl⟩
 have g0 : Boxed (w.alloc (.cells #[.slice none 0 0] 29)) o 29 (.slice none 0 0) := by rw [← ho]; exact Boxed.new _ _ _
 obtain ⟨W0, hW0⟩ : ∃ W0 : World, W0 = w.alloc (.cells #[.slice none 0 0] 29) := ⟨_, rfl⟩
 have hsz0 : W0.heap.size = o + 1 := by rw [hW0, ← ho]; simp
 rw [← hW0] at hb0 hB0 g0 ⊢
 rw [ho] at hb0 hBt ⊢
 clear hW0
 refine wpIn_range_turns (α := ByteArray) (encs := fun x => #[.string x]) (Kp := KeepT Bt) (Tn := TurnT Bt) (S := fun ys => ys.map bl = wordsOf (bl s)) (Sp := fun pre => pre.map bl <+: wordsOf (bl s)) (G := fun pre x => (pre ++ [x]).map bl <+: wordsOf (bl s)) (w0 := W0)
  rfl (by omega) (gf := 64) (lb := #[.pointer (some ⟨Bt, 0, none⟩)]) rfl trivial (enters_of Tryz.func64 (by kernel_rfl) rfl)
  (parts_seq _ (by omega) Bt s (by unfold maxLen; omega) W0 hB0) (fun h k => k.trans h) ?kb (Below.refl _ _) (fun _ => rfl) ?tl (AppI w Bt) (fun _ _ _ => False) ?hI (fun _ _ _ _ _ h _ _ => h) ?hT (fun _ _ _ _ h _ => h) ?h0
  (fun x => { tmps := #[.slice none 0 0, .func (.func 64) #[] #[.pointer (some ⟨Bt, 0, none⟩)], .pointer (some ⟨o, 0, none⟩), undef, .slice none 0 0, .string x, .func (.func 64) #[] #[.pointer (some ⟨Bt, 0, none⟩)], .string x, undef, undef, undef, undef, undef], defers := [] }) ?assign ?body ?done ?stop
 case kb =>
  intro W l ob ob' hl _ _
  exact World.putObj_heap_other (by omega)
 case tl =>
  rintro X Y l ob ⟨v, rfl⟩ hl hx _
  exact (Below.heap_setCell X ⟨Bt, 0, none⟩ _ l (by show l ≠ Bt; omega)).trans hx
 case hI =>
  rintro pre X Y row ⟨h1, h2⟩ hg hr
  exact ⟨holdsRow_own w.heap.size w.heap.size 29 9 1 (fun pre : List ByteArray => pre.length) (fun pre => strs pre) (fun _ _ => True) pre X Y row h1 hg (fun r e => (hr r e).2), h2.grown_from hg (fun r e => by have := (hr r e).1; omega)⟩
 case hT =>
  rintro pre X Y ⟨⟨v, h1, h2, _⟩, h3⟩ ⟨u, rfl⟩
  exact ⟨⟨v, h1.other (by omega) _, own_setCell h2 (fun e => by have := (h2.lt _ e).1; show False; simp at this; omega) _, trivial⟩, h3.set_in rfl 0 _⟩
 case h0 => exact ⟨⟨_, by rw [ho]; exact g0, World.ownsRow_nil _ _ _ _, trivial⟩, Chg.of_below _ (by rw [ho]; exact hb0)⟩
 case assign =>
  intro l x W K hK
  gi_wp2
  exact hK
 case body =>
  rintro l pre x W ⟨⟨v, hv, hrow, _⟩, hch⟩ hpx
  have hlt : pre.length < (wordsOf (bl s)).length := by have := hpx.length_le; simp at this; omega
  rw [ho] at hv hrow
  have hcv := hv.cell
  have hsz : o ≤ W.heap.size := by have := hch.size; omega
  obtain ⟨a, c, rfl, hlr, hra⟩ := RowAt.of_own hrow
  clear hra hlr
  gi_wp2_with (gi_at_builtin; refine wpListIn_append_own _ rfl _ _ 29 rfl o 9 i0 (.string ByteArray.empty) 1 16 Tryz.underlying29 hi hz0 hz1 hz2 rfl (by decide) _ _ _ rfl (hrow.alloc _) ⟨W.heap.size, 0, none⟩ 1 1 [.string x] rfl rfl (cell_one_new _ _ _) (by simp [Value.oneCell']) (by unfold maxLen; omega) (by omega) (by simp; omega) ?_; intro v' w1 hown' hgrow _; obtain ⟨g', cap', rfl⟩ := ownsRow_succ hown'; obtain ⟨hv1, hv2, hr2, hk2, hb2'⟩ := hv.appended (by decide) hrow hsz (Nat.le_refl _) hown' hgrow; have hc1 := hv1.cell; have hf1 := hv1.frozen)
  refine ⟨hk2.from _, .inl ⟨rfl, hb2'.block Bt hBt, ⟨_, by rw [ho]; exact hv2, ?_, trivial⟩, hch.more_below hb2' (by omega)⟩⟩
  have e : strs (pre ++ [x]) = strs pre ++ [.string x] := by simp [strs]
  rw [ho, e]
  simpa using hr2
 case done =>
  rintro D ys W hD hS ⟨⟨v, hv, hrow, _⟩, hch⟩ hK
  rw [ho] at hv
  have hcv := hv.cell
  obtain ⟨a, c, rfl, hlr, hra⟩ := RowAt.of_own hrow
  clear hra hlr
  gi_wp2
  refine bodyPostM_mark (v := .slice a ys.length c) hK ?_ rfl ?_
  ·simp [results, Tryz.results94, go_sem]
  ·exact ⟨_, ys, rfl, hS, ownsRow_putObj hrow _ hK rfl, hch.grown_from (grownBy_putObj' W D _) (fun r e => by cases e; omega)⟩
 case stop =>
  rintro D pre W hD _ h _
  exact h.elim
theorem collect_any (Bt : Nat) (s : ByteArray) (hs : s.size ≤ 1000000000) (w : World) (hB : Blk w Bt #[.string s] 9) :
  Calls Tryz.prog 56 #[.func (.func 64) #[] #[.pointer (some ⟨Bt, 0, none⟩)]] w (CollPost Bt s w) := by
 have HC := Lib.hid (appendSeq_any Bt s hs w hB)
 clear hB
 go_enter Tryz.func56, Tryz.ntmps56
 go_wp2_with (go_at_call 94; refine HC.out.mono ?_; rintro e w1 ⟨v, ys, rfl, h1, h2, h3⟩)
 go_ret
 exact ⟨v, ys, rfl, h1, h2, h3⟩
/-- What Split answers: a new row. -/
def SplitPost (s : ByteArray) (w : World) (e : Ending) (w' : World) : Prop :=
 ∃ (v : Value) (ys : List ByteArray), e = .returned v ∧ ys.map bl = wordsOf (bl s) ∧ w'.ownsRow w.heap.size 9 1 v ys.length (strs ys) ∧ Below w.heap.size w w'
theorem Split_any (s : ByteArray) (hs : s.size ≤ 1000000000) (w : World) :
  Calls Tryz.prog 19 #[.string s] w (SplitPost s w) := by
 have hB : Blk (w.alloc (.cells #[.string s] 9)) w.heap.size #[.string s] 9 := Blk.new _ _ _
 have HC := Lib.hid (collect_any _ s hs _ hB)
 clear hB
 go_enter Tryz.func19, Tryz.ntmps19
 go_wp2_with (first | (go_at_call 31; refine (parts_any s w).mono ?_; rintro e w1 ⟨rfl, hw⟩; subst w1) | (go_at_call 56; refine HC.out.mono ?_; rintro e w1 ⟨v, ys, rfl, h1, h2, h3⟩))
 go_ret
 refine ⟨v, ys, rfl, h1, own_base h2 (by simp), ?_⟩
 exact ⟨h3.os, h3.tape, h3.output, Nat.le_trans (by simp) h3.size, fun k hk => (h3.block k (by simp; omega) (by omega)).trans (((Below.refl _ w).alloc (Nat.le_refl _) _).block k hk)⟩
end Go.Proofs.YthachfkcgdfdfaaGreatDoor
/- T1 · T2 -/
/- Walk: machine.spread: marks are spread along pairs. -/
namespace Go.Proofs.YthachfkcgdfdfaaGreatDoor
open Go.RowKit Classical

theorem Blk.ne_mapB {w : World} {b b' : Nat} {cs : Array Value} {t : TypeId} {Ok : Value → Prop} {l : List (Value × Value)} (h : Blk w b cs t) (h' : MapIs w b' Ok l) : b ≠ b' := by
 rintro rfl
 obtain ⟨es, clock, hb, _⟩ := h'
 unfold Blk at h
 rw [h] at hb; cases hb
theorem own_ne_mapB {w : World} {base : Nat} {e : TypeId} {size n : Nat} {v : Value} {xs : List Value} (h : w.ownsRow base e size v n xs) {b' : Nat} {Ok : Value → Prop} {l : List (Value × Value)} (h' : MapIs w b' Ok l) : v.ownBlock ≠ some b' := by
 obtain ⟨es, clock, hb, _⟩ := h'
 rcases h.2 with ⟨rfl, _⟩ | ⟨g, cap, cur, rfl, _, hh, _⟩
 ·intro e; cases e
 ·intro e
  have e1 : g = b' := by injection e
  subst e1
  rw [hh] at hb; cases hb
end Go.Proofs.YthachfkcgdfdfaaGreatDoor

/- Walk: machine.spread, whole. -/
namespace Go.Proofs.YthachfkcgdfdfaaGreatDoor
open Go.RowKit Classical

def pairsV (l : List (Int × Int)) : List Value := l.flatMap (fun p => [Value.int .i64 p.1, .int .i64 p.2])
end Go.Proofs.YthachfkcgdfdfaaGreatDoor
/- D1 · D2 -/
/- Walk: compose.leaving: a map of the arcs of a machine by the states from which they lead. -/
namespace Go.Proofs.YthachfkcgdfdfaaGreatDoor
open Go.RowKit Classical

theorem flat_one (p : Arc) : flat [p] = p.cells := by simp [flat]
end Go.Proofs.YthachfkcgdfdfaaGreatDoor

/- Walk: the steps of a pair of states, as an iterator (compose.steps). -/
namespace Go.Proofs.YthachfkcgdfdfaaGreatDoor
open Go.RowKit Classical
open Go.Shelf
attribute [local go_sem] Oper.semAt_some
attribute [local go_sem] undef_bool undef_bool'

section
variable {T : World → Nat → Prop} {bm bn : Nat} {W W' W'' : World}
end

end Go.Proofs.YthachfkcgdfdfaaGreatDoor
/- Walk: machine.Trim. -/
namespace Go.Proofs.YthachfkcgdfdfaaGreatDoor
open Go.RowKit Classical

end Go.Proofs.YthachfkcgdfdfaaGreatDoor
