/- GI · GH · GF · PB · BA · BC · UD · RB · UE · QA · QB -/
import Derived.Test.YthachfkcgdfdfaaGreatDoorCards
import Derived.Test.YthachfkcgdfdfaaGreatDoorIter
import Derived.Test.YthachfkcgdfdfaaGreatDoorP00
import Derived.Test.YthachfkcgdfdfaaGreatDoorP01
import Derived.Test.YthachfkcgdfdfaaGreatDoorP03
import Derived.Test.YthachfkcgdfdfaaGreatDoorP04
import Derived.Test.YthachfkcgdfdfaaGreatDoorP05
import Derived.Test.YthachfkcgdfdfaaGreatDoorP06
import Derived.Test.YthachfkcgdfdfaaGreatDoorP07
import Derived.Test.YthachfkcgdfdfaaGreatDoorP08
import Derived.Test.YthachfkcgdfdfaaGreatDoorP09
import Derived.Test.YthachfkcgdfdfaaGreatDoorP10
import Derived.Test.YthachfkcgdfdfaaGreatDoorP11
import Derived.Test.YthachfkcgdfdfaaGreatDoorP12
import Derived.Test.YthachfkcgdfdfaaGreatDoorP13
import Derived.Test.YthachfkcgdfdfaaGreatDoorP14
import Derived.Test.YthachfkcgdfdfaaGreatDoorP15
import Derived.Test.YthachfkcgdfdfaaGreatDoorP16
import Derived.Test.YthachfkcgdfdfaaGreatDoorP17
import Derived.Test.YthachfkcgdfdfaaGreatDoorP18
import Derived.Test.YthachfkcgdfdfaaGreatDoorP19
import Derived.Test.YthachfkcgdfdfaaGreatDoorP20
import Derived.Test.YthachfkcgdfdfaaGreatDoorP21
import Derived.Test.YthachfkcgdfdfaaGreatDoorP22
import Derived.Test.YthachfkcgdfdfaaGreatDoorP23
import Derived.Test.YthachfkcgdfdfaaGreatDoorP24
import Derived.Test.YthachfkcgdfdfaaGreatDoorP25
import Derived.Test.YthachfkcgdfdfaaGreatDoorP26
import Derived.Test.YthachfkcgdfdfaaGreatDoorP27
import Derived.Test.YthachfkcgdfdfaaGreatDoorP28
import Derived.Test.YthachfkcgdfdfaaGreatDoorP29
import Derived.Test.YthachfkcgdfdfaaGreatDoorP30
import Derived.Test.YthachfkcgdfdfaaGreatDoorRV
import Derived.Test.YthachfkcgdfdfaaGreatDoorRows
import Derived.Test.YthachfkcgdfdfaaGreatDoorS17
import Derived.Test.YthachfkcgdfdfaaGreatDoorShelf
import Derived.Test.YthachfkcgdfdfaaGreatDoorSort
import Derived.Test.YthachfkcgdfdfaaGreatDoorSortX
import Derived.Test.YthachfkcgdfdfaaGreatDoorTie
import Derived.Laws.StructEq
import Derived.Deep.QuietTactic
import Derived.BigQuiet
import Derived.StillTailTactics
import Derived.Deep.RegionHeld3
import Derived.Deep.DeepFit
import Derived.Lib.Strings
import Derived.WalkKit
import Derived.Deep.DeepHandedRow
import Derived.Deep.DeepWitnessRowRef
import Derived.Carry
import Derived.Lib.SmallJoins
import Derived.Deep.Strs
import Derived.Deep.Slices
import Derived.ChangeSlices
import Derived.OpenShut
import Derived.ProofKit
namespace Go.Proofs.YthachfkcgdfdfaaGreatDoor
open Go.RowKit Classical

end Go.Proofs.YthachfkcgdfdfaaGreatDoor

namespace Go.Proofs.YthachfkcgdfdfaaGreatDoor
open Go.RowKit Classical

def Few10 (A : Alph) : Prop :=
 (∀ i l, i < 70 → A.letters[i]? = some l → l.size ≤ 20) ∧ A.letters.length ≤ 70 ∧ A.small.length ≤ 70 ∧ A.name.size ≤ 100

set_option maxHeartbeats 400000 in
theorem few10_any (v : Value) (A : Alph) (w : World) (h : AlphAt w w.heap.size v A) :
  Calls Tryz.prog 62 #[v] w fun e w' => e = .returned (.bool (decide (Few10 A))) ∧ Below w.heap.size w w' := by
 obtain ⟨la, lc, sa, sc, rfl, hn, hl1, hs1, hls, hl, hs⟩ := h
 unfold maxLen at hl1 hs1 hn
 go_enter Tryz.func62, Tryz.ntmps62
 go_wp2
 go_loop [3] (fun i => ∃ k : Nat, k ≤ A.letters.length ∧ k ≤ 70 ∧ i = .int .i64 k ∧ (∀ i l, i < k → A.letters[i]? = some l → l.size ≤ 20)) (fun i => A.letters.length - (intOf i).toNat)
 case atStart => exact ⟨0, Nat.zero_le _, by omega, rfl, by simp⟩
 case round =>
  obtain ⟨k, hk, hk7, rfl, hall⟩ := hrel
  have H := Lib.hid hall
  clear hall
  by_cases hlt : k < A.letters.length ∧ k < 70
  ·obtain ⟨hlt, h7⟩ := hlt
   obtain ⟨b, off, rfl, hb, hc⟩ := hl.strs (by omega)
   have hck := hc k hlt
   clear hc hl
   go_wp2
   ·have h1 : (20 : Int) < ↑A.letters[k].size := by assumption
    go_ret
    refine ⟨ret_no fun hf => ?_, (Below.refl _ _).alloc (Nat.le_refl _) _⟩
    have := hf.1 k _ h7 (List.getElem?_eq_getElem hlt)
    omega
   ·refine ⟨⟨k + 1, by omega, by omega, by go_num, fun i l hi hl => ?_⟩, by simp [intOf]; omega⟩
    rcases Nat.lt_succ_iff_lt_or_eq.1 hi with h | rfl
    ·exact H.out i l h hl
    ·rw [List.getElem?_eq_getElem hlt] at hl; obtain rfl := Option.some.inj hl; omega
  ·go_wp2
   ·have : (70 : Int) < A.letters.length := by assumption
    go_ret
    exact ⟨ret_no fun hf => by have := hf.2.1; omega, (Below.refl _ _).alloc (Nat.le_refl _) _⟩
   ·go_ret
    refine ⟨ret_dec ?_, (Below.refl _ _).alloc (Nat.le_refl _) _⟩
    rw [Few10, decide_eq_true_iff]
    exact ⟨fun h => ⟨fun i l hi hl => H.out i l (by have := (List.getElem?_eq_some_iff.1 hl).1; omega) hl, by omega, by omega, by omega⟩, fun h => by omega⟩
   ·go_ret
    exact ⟨ret_no fun hf => by have := hf.2.2.1; omega, (Below.refl _ _).alloc (Nat.le_refl _) _⟩

end Go.Proofs.YthachfkcgdfdfaaGreatDoor
namespace Go.Proofs.YthachfkcgdfdfaaGreatDoor
open Go Classical

theorem symb_zero : symb 0 = [] := rfl
theorem bl_afterB (t : ByteArray) (c : Int) : bl (afterB t c) = bl t ++ symb c := by
 unfold afterB symb
 split
 ·simp
 ·simp [bl]
theorem Walk.more {l : List Arc} {s t u : Int} {x y x' y' : List UInt8} {c d : Int} (h : Walk l s x y t) (ha : (⟨t, c, d, u⟩ : Arc) ∈ l) (hx : x' = x ++ symb c) (hy : y' = y ++ symb d) : Walk l s x' y' u := by
 subst hx hy
 exact Walk.snoc (a := ⟨t, c, d, u⟩) h ha
theorem Goes.walk {M : Mach} {c : Int} {p q : Plc} {s : Int} {x : List UInt8} (h : Goes M c p q) (k : Walk M.arcs s x (bl p.tx) p.st) : Walk M.arcs s (x ++ symb c) (bl q.tx) q.st := by
 obtain ⟨a, ha, e1, e2, rfl⟩ := h
 rw [← e1] at k
 rw [← e2]
 show Walk _ _ _ (bl (afterB p.tx a.out)) a.to
 rw [bl_afterB]
 exact k.snoc ha
theorem Cl.walk {M : Mach} {S : Plc → Prop} {s : Int} {x : List UInt8} (hS : ∀ q, S q → Walk M.arcs s x (bl q.tx) q.st) {p : Plc} (hp : Cl M S p) : Walk M.arcs s x (bl p.tx) p.st := by
 induction hp with
 | base h0 => exact hS _ h0
 | more _ hg ih => simpa [symb_zero] using hg.walk ih
theorem byte_ne {b : UInt8} (hb : b ≠ 0) : ((b.toNat : Nat) : Int) ≠ 0 := by
 intro e
 apply hb; apply UInt8.toNat_inj.1; simp; omega
theorem symb_byte {b : UInt8} (hb : b ≠ 0) : symb (b.toNat : Int) = [b] := by
 unfold symb
 rw [if_neg (byte_ne hb)]
 simp
theorem snocRec {p : List UInt8 → Prop} (h0 : p []) (h : ∀ l b, p l → p (l ++ [b])) (l : List UInt8) : p l := by
 have : ∀ n l, l.length = n → p l := fun n => by
  induction n with
  | zero => intro l hl; obtain rfl := List.length_eq_zero_iff.1 hl; exact h0
  | succ n ih =>
   intro l hl
   have hne : l ≠ [] := by intro e; subst e; simp at hl
   rw [← List.dropLast_concat_getLast hne]
   exact h _ _ (ih _ (by rw [List.length_dropLast]; omega))
 exact this _ l rfl
theorem Reach_none {M : Mach} {l : List UInt8} (h : (0 : UInt8) ∈ l) (p : Plc) : ¬ Reach M l p := by
 induction l using snocRec generalizing p with
 | h0 => simp at h
 | h l b ih =>
  by_cases hb : b = 0
  ·subst hb
   unfold Reach
   rw [List.foldl_append]
   simp
  ·rw [Reach_snoc _ _ _ hb]
   have hl : (0 : UInt8) ∈ l := by
    rcases List.mem_append.1 h with h | h
    ·exact h
    ·simp at h; exact absurd h.symm hb
   intro hp
   have : ∀ q, ¬ Setout M (Reach M l) (b.toNat : Int) q := fun q hq => by
    unfold Setout at hq
    rw [if_neg (byte_ne hb)] at hq
    obtain ⟨q', h1, _⟩ := hq
    exact ih hl q' h1
   unfold StepM at hp
   induction hp with
   | base h0 => exact this _ h0
   | more _ _ ih => exact ih
theorem reach_walk {M : Mach} (l : List UInt8) : ∀ p, Reach M l p → Walk M.arcs M.start l (bl p.tx) p.st := by
 induction l using snocRec with
 | h0 =>
  intro p hp
  rw [Reach_nil] at hp
  exact hp.walk (fun q e => by subst e; exact .nil)
 | h l b ih =>
  intro p hp
  by_cases hb : b = 0
  ·subst hb
   exact absurd hp (Reach_none (by simp) p)
  ·rw [Reach_snoc _ _ _ hb] at hp
   refine Cl.walk (fun q hq => ?_) hp
   unfold Setout at hq
   rw [if_neg (byte_ne hb)] at hq
   obtain ⟨q', h1, h2⟩ := hq
   have := h2.walk (ih q' h1)
   rwa [symb_byte hb] at this
theorem reach_on {M : Mach} {l : List UInt8} {p q : Plc} (hp : Reach M l p) (hg : Goes M 0 p q) : Reach M l q := by
 rcases List.eq_nil_or_concat l with rfl | ⟨l', b, rfl⟩
 ·rw [Reach_nil] at hp ⊢; exact .more hp hg
 ·by_cases hb : b = 0
  ·subst hb; exact absurd hp (Reach_none (by simp) p)
  ·rw [List.concat_eq_append, Reach_snoc _ _ _ hb] at hp ⊢
   exact .more hp hg
/-- A symbol that is a byte. -/
theorem sym_byte {c : Int} (h : SymOk c) (hc : c ≠ 0) : c.toNat.toUInt8 ≠ 0 ∧ ((c.toNat.toUInt8.toNat : Nat) : Int) = c := by
 rcases h with h | h
 ·exact absurd h hc
 ·have e : c.toNat.toUInt8.toNat = c.toNat := by
   rw [Nat.toUInt8_eq, UInt8.toNat_ofNat']; omega
  exact ⟨fun e0 => by rw [e0] at e; simp at e; omega, by rw [e]; omega⟩
theorem walk_reach {M : Mach} (hv : ∀ a ∈ M.arcs, SymOk a.inp) {x y : List UInt8} {s : Int} (h : Walk M.arcs M.start x y s) : Reach M x ⟨s, ⟨y.toArray⟩⟩ := by
 induction h with
 | nil => rw [Reach_nil]; exact .base rfl
 | @snoc x y a _ ha ih =>
  have hg : Goes M a.inp ⟨a.frm, ⟨y.toArray⟩⟩ ⟨a.to, ⟨(y ++ symb a.out).toArray⟩⟩ := by
   refine ⟨a, ha, rfl, rfl, ?_⟩
   congr 1
   apply bl_inj
   rw [bl_afterB]
   simp [bl]
  by_cases h0 : a.inp = 0
  ·rw [h0] at hg ⊢
   rw [symb_zero, List.append_nil]
   exact reach_on ih hg
  ·obtain ⟨h1, h2⟩ := sym_byte (hv a ha) h0
   have hs : symb a.inp = [a.inp.toNat.toUInt8] := by unfold symb; rw [if_neg h0]
   rw [hs, Reach_snoc _ _ _ h1, h2]
   refine .base ?_
   unfold Setout
   rw [if_neg h0]
   exact ⟨_, ih, hg⟩
theorem walk_zero {l : List Arc} (hv : ∀ a ∈ l, SymOk a.inp) {x y : List UInt8} {s t : Int} (h : Walk l s x y t) : (0 : UInt8) ∉ x := by
 induction h with
 | nil => simp
 | @snoc x y a _ ha ih =>
  intro hm
  rcases List.mem_append.1 hm with hm | hm
  ·exact ih hm
  ·unfold symb at hm
   split at hm
   ·simp at hm
   ·rename_i h0
    have := (sym_byte (hv a ha) h0).1
    simp at hm
    exact this hm.symm
theorem result_iff {M : Mach} (hv : ∀ a ∈ M.arcs, SymOk a.inp) {x : List UInt8} {t : ByteArray} : Result M x t ↔ ∃ s ∈ M.final, Walk M.arcs M.start x (bl t) s := by
 constructor
 ·rintro ⟨_, s, hs, hr⟩
  exact ⟨s, hs, reach_walk x _ hr⟩
 ·rintro ⟨s, hs, hw⟩
  refine ⟨walk_zero hv hw, s, hs, ?_⟩
  have := walk_reach hv hw
  rwa [show (⟨(bl t).toArray⟩ : ByteArray) = t from bl_inj (by simp [bl])] at this

end Go.Proofs.YthachfkcgdfdfaaGreatDoor
namespace Go.Proofs.YthachfkcgdfdfaaGreatDoor
open Go.RowKit Classical

def Few13 (R : Ruls) (A B : Alph) (m : Int) : Prop :=
 (∀ (i : Nat) r, (i : Int) < m → R.list[i]? = some r → r.src.size ≤ 40 ∧ r.dst.size ≤ 40 ∧ r.nxt.size ≤ 40) ∧ (R.list.length : Int) ≤ m ∧ R.src.size ≤ 100 ∧ R.dst.size ≤ 100 ∧ Few10 A ∧ Few10 B

set_option maxRecDepth 100000 in
set_option maxHeartbeats 2000000 in
theorem few13_any (R : Ruls) (A B : Alph) (m : Int) (v va vb : Value) (w : World) (h : RulsAt w w.heap.size v R) (ha : AlphAt w w.heap.size va A) (hb : AlphAt w w.heap.size vb B) :
  Calls Tryz.prog 63 #[v, va, vb, .int .i64 m] w fun e w' => e = .returned (.bool (decide (Few13 R A B m))) ∧ Below w.heap.size w w' := by
 have hA := ha
 have hB := hb
 obtain ⟨la, lc, rfl, hs1, hs2, hln, hlr, hl⟩ := h
 obtain ⟨fa, fc, ga, gc, rfl, hn, hl1, hs3, hls, hfl, hfs⟩ := ha
 obtain ⟨fa2, fc2, ga2, gc2, rfl, hn2, hl2, hs4, hls2, hfl2, hfs2⟩ := hb
 unfold maxLen at hln hs1 hs2
 go_enter Tryz.func63, Tryz.ntmps63
 go_wp2_with fail
 generalize hW0 : (((w.alloc _).alloc _).alloc _) = W0
 have hw0 : Below w.heap.size w W0 := by rw [← hW0]; exact (((Below.refl _ _).alloc (Nat.le_refl _) _).alloc (by simp) _).alloc (by simp; omega) _
 have hsz : W0.heap.size = w.heap.size + 3 := by rw [← hW0]; simp
 have hbr : Box W0 w.heap.size [Value.string R.src, .string R.dst, .slice la R.list.length lc] := by
  rw [← hW0]; exact ((Box.new _ _ _).alloc (by simp) _).alloc (by simp; omega) _
 have hba : Box W0 (w.heap.size + 1) [Value.string A.name, .slice fa A.letters.length fc, .slice ga A.small.length gc] := by
  rw [← hW0]; have := (Box.new (w.alloc (.cells #[Value.string R.src, .string R.dst, .slice la R.list.length lc] 106)) [Value.string A.name, .slice fa A.letters.length fc, .slice ga A.small.length gc] 89)
  simp at this; exact this.alloc (by simp) _
 have hbb : Box W0 (w.heap.size + 2) [Value.string B.name, .slice fa2 B.letters.length fc2, .slice ga2 B.small.length gc2] := by
  rw [← hW0]; have := (Box.new ((w.alloc (.cells #[Value.string R.src, .string R.dst, .slice la R.list.length lc] 106)).alloc (.cells #[Value.string A.name, .slice fa A.letters.length fc, .slice ga A.small.length gc] 89)) [Value.string B.name, .slice fa2 B.letters.length fc2, .slice ga2 B.small.length gc2] 89)
  simp at this; exact this
 clear hW0
 obtain ⟨r0, r1, r2⟩ := hbr.c3
 have HBa := Lib.hid (And.intro hba hbb)
 clear hba hbb hbr
 go_loop [9] (fun i => ∃ k : Nat, k ≤ R.list.length ∧ ((k : Int) ≤ m ∨ k = 0) ∧ i = .int .i64 k ∧ (∀ (i : Nat) r, i < k → R.list[i]? = some r → r.src.size ≤ 40 ∧ r.dst.size ≤ 40 ∧ r.nxt.size ≤ 40)) (fun i => R.list.length - (intOf i).toNat)
 case atStart => exact ⟨0, Nat.zero_le _, .inr rfl, rfl, by simp⟩
 case round =>
  obtain ⟨k, hk, hkm, rfl, hall⟩ := hrel
  have H := Lib.hid hall
  clear hall
  by_cases hlt : k < R.list.length ∧ (k : Int) < m
  ·obtain ⟨hlt, hm⟩ := hlt
   obtain ⟨b, off, rfl, hb, hc⟩ := hl.ruls (by omega)
   have k0 := (hw0.cell (p := ⟨b, off + k * 4, none⟩) hb).trans (hc k hlt).1
   have k1 := (hw0.cell (p := ⟨b, off + k * 4 + 1, none⟩) hb).trans (hc k hlt).2.1
   have k2 := (hw0.cell (p := ⟨b, off + k * 4 + 2, none⟩) hb).trans (hc k hlt).2.2.1
   clear hc hl
   have hnoF : Hid (¬ (R.list[k].src.size ≤ 40 ∧ R.list[k].dst.size ≤ 40 ∧ R.list[k].nxt.size ≤ 40) → ¬ Few13 R A B m) := fun hno hf => hno (hf.1 k _ hm (List.getElem?_eq_getElem hlt))
   have hnext : Hid ((R.list[k].src.size ≤ 40 ∧ R.list[k].dst.size ≤ 40 ∧ R.list[k].nxt.size ≤ 40) → ∀ (i : Nat) r, i < k + 1 → R.list[i]? = some r → r.src.size ≤ 40 ∧ r.dst.size ≤ 40 ∧ r.nxt.size ≤ 40) := fun hy i r hi hr => by
    rcases Nat.lt_succ_iff_lt_or_eq.1 hi with h | rfl
    ·exact H.out i r h hr
    ·rw [List.getElem?_eq_getElem hlt] at hr; obtain rfl := Option.some.inj hr; exact hy
   obtain ⟨x, hx⟩ : ∃ x, x = R.list[k] := ⟨_, rfl⟩
   rw [← hx] at k0 k1 k2 hnoF hnext
   clear hx
   by_cases hy : x.src.size ≤ 40 ∧ x.dst.size ≤ 40 ∧ x.nxt.size ≤ 40
   ·have Hy := Lib.hid (hnext.out hy)
    obtain ⟨y1, y2, y3⟩ := hy
    go_wp2
    exact ⟨⟨k + 1, by omega, by omega, by go_num, Hy.out⟩, by simp [intOf]; omega⟩
   ·have Hy := Lib.hid (hnoF.out hy)
    have Hny := Lib.hid hy
    clear hy hnext hnoF
    go_wp2
    all_goals first
     | (go_ret; exact ⟨ret_no Hy.out, hw0⟩)
     | (exfalso; have := Hny.out; omega)
  ·by_cases hc : (R.list.length : Int) ≤ m ∧ R.src.size ≤ 100 ∧ R.dst.size ≤ 100
   ·obtain ⟨hc1, hc2, hc3⟩ := hc
    have hkl : k = R.list.length := by omega
    have Hall : Hid (∀ (i : Nat) r, (i : Int) < m → R.list[i]? = some r → r.src.size ≤ 40 ∧ r.dst.size ≤ 40 ∧ r.nxt.size ≤ 40) := fun i r _ hr => H.out i r (by have := (List.getElem?_eq_some_iff.1 hr).1; omega) hr
    have q1 := few10_any _ A W0 ((hA.below hw0 (Nat.le_refl _)).more hw0.size)
    obtain ⟨a0, a1, a2⟩ := HBa.out.1.c3
    clear hkl
    by_cases hfa : Few10 A
    ·rw [decide_eq_true hfa] at q1
     have Hfa := Lib.hid hfa
     have Q1 := Lib.hid q1
     clear hfa q1
     go_wp2_with fail
     refine Q1.out.mono ?_
     rintro e w5 ⟨rfl, hb5⟩
     obtain ⟨b0, b1, b2⟩ := (HBa.out.2.below hb5 (by omega)).c3
     have hw5 := hw0.trans (hb5.mono hw0.size)
     have q2 := few10_any _ B w5 ((hB.below hw5 (Nat.le_refl _)).more hw5.size)
     have Q2 := Lib.hid q2
     clear q2 a0 a1 a2 r0 r1 r2
     go_wp2_with fail
     refine Q2.out.mono ?_
     rintro e w6 ⟨rfl, hb6⟩
     have Hd := Lib.hid (show decide (Few10 B) = true ↔ Few13 R A B m from by
      rw [decide_eq_true_iff, Few13]
      exact ⟨fun h => ⟨Hall.out, hc1, hc2, hc3, Hfa.out, h⟩, fun h => h.2.2.2.2.2⟩)
     go_wp2
     go_ret
     exact ⟨ret_dec Hd.out, hw5.trans (hb6.mono hw5.size)⟩
    ·rw [decide_eq_false hfa] at q1
     have Hfa := Lib.hid hfa
     have Q1 := Lib.hid q1
     clear hfa q1
     go_wp2_with fail
     refine Q1.out.mono ?_
     rintro e w5 ⟨rfl, hb5⟩
     have hw5 := hw0.trans (hb5.mono hw0.size)
     clear a0 a1 a2 r0 r1 r2
     go_wp2
     go_ret
     exact ⟨ret_no (fun hf => Hfa.out hf.2.2.2.2.1), hw5⟩
   ·have Hc := Lib.hid hc
    have Hno := Lib.hid (show ¬ Few13 R A B m from fun hf => hc ⟨hf.2.1, hf.2.2.1, hf.2.2.2.1⟩)
    clear hc
    obtain ⟨a0, a1, a2⟩ := HBa.out.1.c3
    go_wp2
    all_goals first
     | (go_ret; exact ⟨ret_no Hno.out, hw0⟩)
     | (exfalso; have := Hc.out; omega)
end Go.Proofs.YthachfkcgdfdfaaGreatDoor

namespace Go.Proofs.YthachfkcgdfdfaaGreatDoor
open Go.RowKit Classical

end Go.Proofs.YthachfkcgdfdfaaGreatDoor
namespace Go.Proofs.YthachfkcgdfdfaaGreatDoor
open Go Classical

section
variable {M N C : Mach} {ord : List (Int × Int)} {arcs : List Arc}
end

end Go.Proofs.YthachfkcgdfdfaaGreatDoor

namespace Go.Proofs.YthachfkcgdfdfaaGreatDoor
open Go Classical

section
variable {M N U : Mach}
end
end Go.Proofs.YthachfkcgdfdfaaGreatDoor

namespace Go.Proofs.YthachfkcgdfdfaaGreatDoor
open Go Classical

/-- The runs of a machine, as cases. -/
theorem runs_cases {M : Mach} {x : List UInt8} {ts : List ByteArray} {err : Int} (h : RunsOf M x ts err) (hv : ValidM M) (hx : x.length ≤ 400) :
  (err = 12 ∧ Circle M) ∨ (¬ Circle M ∧ ((err = 2 ∧ ∃ i, i ≤ x.length ∧ ¬ FewPl (Reach M (x.take i))) ∨ (err = 0 ∧ (∀ i, i ≤ x.length → FewPl (Reach M (x.take i))) ∧ SortedB ts ∧ ∀ t, t ∈ ts ↔ Result M x t))) := by
 rcases h with ⟨n, _, _⟩ | ⟨_, ⟨c, _, e⟩ | ⟨nc, ⟨f, _, e⟩ | ⟨f, e, s, m⟩⟩⟩
 ·exact absurd ⟨hv, hx⟩ n
 ·exact .inl ⟨e, c⟩
 ·exact .inr ⟨nc, .inl ⟨e, f⟩⟩
 ·exact .inr ⟨nc, .inr ⟨e, f, s, m⟩⟩
section
variable {K M N C : Mach}
end

end Go.Proofs.YthachfkcgdfdfaaGreatDoor

namespace Go.Proofs.YthachfkcgdfdfaaGreatDoor
open Go Classical

end Go.Proofs.YthachfkcgdfdfaaGreatDoor

namespace Go.Proofs.YthachfkcgdfdfaaGreatDoor
open Go Classical

/-- Which letter a state belongs to, and how many of its bytes were read there. -/
def innFrom : Nat → List (List UInt8) → Int → Option (List UInt8 × Nat)
 | _, [], _ => none
 | base, l :: r, s => if (base : Int) ≤ s ∧ s < (base : Int) + (l.length - 1 : Nat) then some (l, (s - base).toNat + 1) else innFrom (base + l.length - 1) r s
theorem inn_low : ∀ (r : List (List UInt8)) (base : Nat) (s : Int), s < base → (∀ l ∈ r, 1 ≤ l.length) → innFrom base r s = none
 | [], _, _, _, _ => rfl
 | l :: r, base, s, h, hn => by
  have h1 := hn l (List.mem_cons_self ..)
  unfold innFrom
  rw [if_neg (by omega)]
  exact inn_low r _ s (by omega) (fun z hz => hn z (List.mem_cons_of_mem _ hz))
/-- An arc of a letter, as the states' letters tell. -/
def CopyArc (inn : Int → Option (List UInt8 × Nat)) (LS : List (List UInt8)) (a : Arc) : Prop :=
 ∃ l ∈ LS, ∃ k, k < l.length ∧ a.inp = byteL l k ∧ a.out = byteL l k ∧ ((k = 0 ∧ (a.frm = 0 ∨ a.frm = 1)) ∨ inn a.frm = some (l, k)) ∧ ((k + 1 = l.length ∧ a.to = 1) ∨ (k + 1 < l.length ∧ inn a.to = some (l, k + 1)))
def InOr (base : Nat) (s : Int) : Prop := s = 0 ∨ s = 1 ∨ (base : Int) ≤ s
theorem copy_let {l : List UInt8} {r : List (List UInt8)} {base : Nat} (h1 : 1 ≤ l.length) : ∀ a ∈ letArcs l base, CopyArc (innFrom base (l :: r)) (l :: r) a := by
 have inr : ∀ j : Nat, j < l.length - 1 → innFrom base (l :: r) ((base : Int) + (j : Int)) = some (l, j + 1) := fun j hj => by
  unfold innFrom
  rw [if_pos (by omega)]
  congr 2
  omega
 have hto : ∀ k, k < l.length → (k + 1 = l.length ∧ letTo l base k = 1) ∨ (k + 1 < l.length ∧ innFrom base (l :: r) (letTo l base k) = some (l, k + 1)) := fun k hk => by
  unfold letTo
  split
  ·rename_i e; exact .inl ⟨e, rfl⟩
  ·exact .inr ⟨by omega, inr k (by omega)⟩
 intro a ha
 unfold letArcs at ha
 simp only [List.mem_append, List.mem_cons, List.not_mem_nil, or_false, List.mem_map, List.mem_range] at ha
 rcases ha with (rfl | rfl) | ⟨j, hj, rfl⟩
 ·exact ⟨l, List.mem_cons_self .., 0, by omega, rfl, rfl, .inl ⟨rfl, .inl rfl⟩, hto 0 (by omega)⟩
 ·exact ⟨l, List.mem_cons_self .., 0, by omega, rfl, rfl, .inl ⟨rfl, .inr rfl⟩, hto 0 (by omega)⟩
 ·exact ⟨l, List.mem_cons_self .., j + 1, by omega, rfl, rfl, .inr (inr j hj), hto (j + 1) (by omega)⟩
theorem let_ends {l : List UInt8} {base : Nat} : ∀ a ∈ letArcs l base, InOr base a.frm ∧ InOr base a.to := by
 have hto : ∀ k, InOr base (letTo l base k) := fun k => by unfold letTo InOr; split; exact .inr (.inl rfl); exact .inr (.inr (by omega))
 intro a ha
 unfold letArcs at ha
 simp only [List.mem_append, List.mem_cons, List.not_mem_nil, or_false, List.mem_map, List.mem_range] at ha
 rcases ha with (rfl | rfl) | ⟨j, hj, rfl⟩
 ·exact ⟨.inl rfl, hto 0⟩
 ·exact ⟨.inr (.inl rfl), hto 0⟩
 ·exact ⟨.inr (.inr (by show (base : Int) ≤ (base : Int) + (j : Int); omega)), hto (j + 1)⟩
theorem copy_from : ∀ (r : List (List UInt8)) (base : Nat), 2 ≤ base → (∀ l ∈ r, 1 ≤ l.length) → ∀ a ∈ copyArcs base r, CopyArc (innFrom base r) r a ∧ InOr base a.frm ∧ InOr base a.to
 | [], _, _, _ => fun a ha => by simp [copyArcs] at ha
 | l :: r, base, hb, hn => by
  have h1 := hn l (List.mem_cons_self ..)
  intro a ha
  simp only [copyArcs, List.mem_append] at ha
  rcases ha with ha | ha
  ·exact ⟨copy_let h1 a ha, let_ends a ha⟩
  ·obtain ⟨⟨m, hm, k, q1, q2, q3, q4, q5⟩, e1, e2⟩ := copy_from r (base + l.length - 1) (by omega) (fun z hz => hn z (List.mem_cons_of_mem _ hz)) a ha
   have same : ∀ s : Int, InOr (base + l.length - 1) s → innFrom base (l :: r) s = innFrom (base + l.length - 1) r s := fun s hs => by
    conv => lhs; unfold innFrom
    rw [if_neg (by unfold InOr at hs; omega)]
   have up : ∀ s : Int, InOr (base + l.length - 1) s → InOr base s := fun s hs => by unfold InOr at hs ⊢; omega
   refine ⟨⟨m, List.mem_cons_of_mem _ hm, k, q1, q2, q3, ?_, ?_⟩, up _ e1, up _ e2⟩
   ·rw [same _ e1]; exact q4
   ·rw [same _ e2]; exact q5
/-- A letter's way. -/
theorem copy_has : ∀ (r : List (List UInt8)) (base : Nat), ∀ l ∈ r, 1 ≤ l.length → ∃ st : Nat → Int, st l.length = 1 ∧ (∀ f : Int, f = 0 ∨ f = 1 → (⟨f, byteL l 0, byteL l 0, st 1⟩ : Arc) ∈ copyArcs base r) ∧ ∀ k, 0 < k → k < l.length → (⟨st k, byteL l k, byteL l k, st (k + 1)⟩ : Arc) ∈ copyArcs base r
 | [], _, l, hl, _ => by simp at hl
 | m :: r, base, l, hl, h1 => by
  rcases List.mem_cons.1 hl with rfl | hl
  ·refine ⟨fun k => letTo l base (k - 1), by simp only [letTo]; rw [if_pos (by omega)], fun f hf => ?_, fun k h0 hk => ?_⟩
   ·refine List.mem_append.2 (.inl (List.mem_append.2 (.inl ?_)))
    rcases hf with rfl | rfl
    ·exact List.mem_cons_self ..
    ·exact List.mem_cons_of_mem _ (List.mem_cons_self ..)
   ·refine List.mem_append.2 (.inl (List.mem_append.2 (.inr (List.mem_map.2 ⟨k - 1, List.mem_range.2 (by omega), ?_⟩))))
    have e : k - 1 + 1 = k := by omega
    simp only [e, Nat.add_sub_cancel]
    congr 1
    unfold letTo
    rw [if_neg (by omega)]
  ·obtain ⟨st, q1, q2, q3⟩ := copy_has r (base + m.length - 1) l hl h1
   exact ⟨st, q1, fun f hf => List.mem_append.2 (.inr (q2 f hf)), fun k h0 hk => List.mem_append.2 (.inr (q3 k h0 hk))⟩

theorem symb_at {l : List UInt8} {k : Nat} (hk : k < l.length) (h0 : ∀ c ∈ l, c ≠ 0) : symb (byteL l k) = [l[k]] := by
 unfold byteL
 rw [List.getElem?_eq_getElem hk]
 exact symb_byte (h0 _ (List.getElem_mem hk))
/-- Where a way of the copy leads. -/
theorem copy_walk {LS : List (List UInt8)} (hn : ∀ l ∈ LS, 1 ≤ l.length) (h0 : ∀ l ∈ LS, ∀ c ∈ l, c ≠ 0) {arcs : List Arc} (hm : ∀ a ∈ arcs, a ∈ copyArcs 2 LS) {x y : List UInt8} {s : Int} (k : Walk arcs 0 x y s) :
  y = x ∧ ((s = 0 ∧ x = []) ∨ (s = 1 ∧ Cat LS x) ∨ ∃ l ∈ LS, ∃ j w, j < l.length ∧ innFrom 2 LS s = some (l, j) ∧ (w = [] ∨ Cat LS w) ∧ x = w ++ l.take j) := by
 have low0 : innFrom 2 LS 0 = none := inn_low LS 2 0 (by omega) hn
 have low1 : innFrom 2 LS 1 = none := inn_low LS 2 1 (by omega) hn
 induction k with
 | nil => exact ⟨rfl, .inl ⟨rfl, rfl⟩⟩
 | @snoc x y a _ ha ih =>
  obtain ⟨⟨l, hl, k, q1, q2, q3, q4, q5⟩, _, _⟩ := copy_from LS 2 (Nat.le_refl _) hn a (hm a ha)
  obtain ⟨rfl, ih⟩ := ih
  have e1 := symb_at q1 (h0 l hl)
  rw [q2, q3, e1]
  refine ⟨rfl, ?_⟩
  have hx : ∃ w, (w = [] ∨ Cat LS w) ∧ y = w ++ l.take k := by
   rcases q4 with ⟨rfl, hf⟩ | hf
   ·rcases ih with ⟨_, rfl⟩ | ⟨_, hc⟩ | ⟨m, _, j, w, _, hi, _⟩
    ·exact ⟨[], .inl rfl, by simp⟩
    ·exact ⟨y, .inr hc, by simp⟩
    ·rcases hf with e | e
     ·rw [e, low0] at hi; cases hi
     ·rw [e, low1] at hi; cases hi
   ·rcases ih with ⟨e, _⟩ | ⟨e, _⟩ | ⟨m, _, j, w, _, hi, hw, rfl⟩
    ·rw [e, low0] at hf; cases hf
    ·rw [e, low1] at hf; cases hf
    ·rw [hf] at hi
     cases hi
     exact ⟨w, hw, rfl⟩
  obtain ⟨w, hw, rfl⟩ := hx
  have e2 : w ++ l.take k ++ [l[k]] = w ++ l.take (k + 1) := by
   rw [List.append_assoc, List.take_add_one, List.getElem?_eq_getElem q1]; rfl
  rw [e2]
  rcases q5 with ⟨q5, q6⟩ | ⟨q5, q6⟩
  ·refine .inr (.inl ⟨q6, ?_⟩)
   rw [q5, List.take_length]
   rcases hw with rfl | hw
   ·rw [List.nil_append]; exact .one hl
   ·exact hw.more hl
  ·exact .inr (.inr ⟨l, hl, k + 1, w, q5, q6, hw, rfl⟩)
theorem letter_walk {LS : List (List UInt8)} {l : List UInt8} (hl : l ∈ LS) (h1 : 1 ≤ l.length) (h0 : ∀ c ∈ l, c ≠ 0) {arcs : List Arc} (hm : ∀ a ∈ copyArcs 2 LS, a ∈ arcs) {x : List UInt8} {f : Int} (hf : f = 0 ∨ f = 1) (k : Walk arcs 0 x x f) : Walk arcs 0 (x ++ l) (x ++ l) 1 := by
 obtain ⟨st, q1, q2, q3⟩ := copy_has LS 2 l hl h1
 have key : ∀ j, 0 < j → j ≤ l.length → Walk arcs 0 (x ++ l.take j) (x ++ l.take j) (st j) := fun j => by
  induction j with
  | zero => intro h; omega
  | succ j ih =>
   intro _ hj
   have e : ∀ z : List UInt8, z ++ l.take (j + 1) = z ++ l.take j ++ symb (byteL l j) := fun z => by
    rw [symb_at (by omega) h0, List.take_add_one, List.getElem?_eq_getElem (by omega), List.append_assoc]; rfl
   by_cases hj0 : j = 0
   ·subst hj0
    refine Walk.more (u := st 1) k (hm _ (q2 f hf)) ?_ ?_ <;> (rw [e]; simp)
   ·exact Walk.more (u := st (j + 1)) (ih (by omega) (by omega)) (hm _ (q3 j (by omega) (by omega))) (e x) (e x)
 have := key l.length (by omega) (Nat.le_refl _)
 rwa [List.take_length, q1] at this
theorem cat_walk {LS : List (List UInt8)} (hn : ∀ l ∈ LS, 1 ≤ l.length) (h0 : ∀ l ∈ LS, ∀ c ∈ l, c ≠ 0) {arcs : List Arc} (hm : ∀ a ∈ copyArcs 2 LS, a ∈ arcs) {x : List UInt8} (h : Cat LS x) : Walk arcs 0 x x 1 := by
 induction h with
 | one hl => simpa using letter_walk hl (hn _ hl) (h0 _ hl) hm (.inl rfl) (x := []) .nil
 | more _ hl ih => exact letter_walk hl (hn _ hl) (h0 _ hl) hm (.inr rfl) ih

theorem CopyM.result {LS : List (List UInt8)} {C : Mach} (h : CopyM LS C) (hn : ∀ l ∈ LS, 1 ≤ l.length) (h0 : ∀ l ∈ LS, ∀ c ∈ l, c ≠ 0) (hv : ∀ a ∈ C.arcs, SymOk a.inp) {x : List UInt8} {t : ByteArray} : Result C x t ↔ bl t = x ∧ Cat LS x := by
 rw [result_iff hv, h.start]
 constructor
 ·rintro ⟨s, hs, hw⟩
  rw [h.final] at hs
  obtain rfl := List.mem_singleton.1 hs
  obtain ⟨e, h1⟩ := copy_walk hn h0 (fun a ha => (h.mem a).1 ha) hw
  refine ⟨e, ?_⟩
  rcases h1 with ⟨h1, _⟩ | ⟨_, h1⟩ | ⟨l, _, j, w, _, hi, _⟩
  ·cases h1
  ·exact h1
  ·rw [inn_low LS 2 1 (by omega) hn] at hi; cases hi
 ·rintro ⟨rfl, hc⟩
  exact ⟨1, by rw [h.final]; simp, cat_walk hn h0 (fun a ha => (h.mem a).2 ha) hc⟩
end Go.Proofs.YthachfkcgdfdfaaGreatDoor

namespace Go.Proofs.YthachfkcgdfdfaaGreatDoor
open Go Classical

theorem copyStates_ge : ∀ (r : List (List UInt8)) (base : Nat), (∀ l ∈ r, 1 ≤ l.length) → base ≤ copyStates base r
 | [], _, _ => Nat.le_refl _
 | l :: r, base, h => by
  have h1 := h l (List.mem_cons_self ..)
  have := copyStates_ge r (base + l.length - 1) (fun m hm => h m (List.mem_cons_of_mem _ hm))
  simp only [copyStates]; omega
theorem copyArcs_len : ∀ (r : List (List UInt8)) (base : Nat), (∀ l ∈ r, l.length ≤ 3) → (copyArcs base r).length ≤ 4 * r.length
 | [], _, _ => by simp [copyArcs]
 | l :: r, base, h => by
  have h1 := h l (List.mem_cons_self ..)
  have := copyArcs_len r (base + l.length - 1) (fun m hm => h m (List.mem_cons_of_mem _ hm))
  simp only [copyArcs, letArcs, List.length_append, List.length_cons, List.length_nil, List.length_map, List.length_range]
  omega
theorem copy_in {n : Nat} : ∀ (r : List (List UInt8)) (base : Nat), 2 ≤ base → (∀ l ∈ r, 1 ≤ l.length) → (∀ l ∈ r, ∀ k, SymOk (byteL l k)) → copyStates base r ≤ n → ∀ a ∈ copyArcs base r, StateOk n a.frm ∧ StateOk n a.to ∧ SymOk a.inp ∧ SymOk a.out
 | [], _, _, _, _, _ => fun a ha => by simp [copyArcs] at ha
 | l :: r, base, hb, hl, hs, hn => by
  have h1 := hl l (List.mem_cons_self ..)
  have hr : ∀ m ∈ r, 1 ≤ m.length := fun m hm => hl m (List.mem_cons_of_mem _ hm)
  have hge := copyStates_ge r (base + l.length - 1) hr
  simp only [copyStates] at hn
  have hto : ∀ k, k < l.length → StateOk n (letTo l base k) := fun k hk => by
   unfold letTo StateOk
   split <;> omega
  have hsl := hs l (List.mem_cons_self ..)
  intro a ha
  simp only [copyArcs, List.mem_append] at ha
  rcases ha with ha | ha
  ·unfold letArcs at ha
   simp only [List.mem_append, List.mem_cons, List.not_mem_nil, or_false, List.mem_map, List.mem_range] at ha
   rcases ha with (rfl | rfl) | ⟨j, hj, rfl⟩
   ·exact ⟨⟨by show (0 : Int) ≤ 0; omega, by show (0 : Int) < n; omega⟩, hto 0 (by omega), hsl 0, hsl 0⟩
   ·exact ⟨⟨by show (0 : Int) ≤ 1; omega, by show (1 : Int) < n; omega⟩, hto 0 (by omega), hsl 0, hsl 0⟩
   ·exact ⟨⟨by show (0 : Int) ≤ (base : Int) + (j : Int); omega, by show (base : Int) + (j : Int) < n; omega⟩, hto (j + 1) (by omega), hsl _, hsl _⟩
  ·exact copy_in r (base + l.length - 1) (by omega) hr (fun m hm => hs m (List.mem_cons_of_mem _ hm)) hn a ha
theorem CopyM.valid {A : Alph} (hA : Valid10 A) {C : Mach} (h : CopyM A.bls C) : ValidM C := by
 have hT := told_of hA
 have h64 : A.bls.length ≤ 64 := by unfold Alph.bls; rw [List.length_map]; exact hA.1.2.2.1
 have hn : ∀ l ∈ A.bls, 1 ≤ l.length := fun l hl => (hT.len l hl).1
 have h3 : ∀ l ∈ A.bls, l.length ≤ 3 := fun l hl => (hT.len l hl).2
 have hs : ∀ l ∈ A.bls, ∀ k, SymOk (byteL l k) := fun l hl k => by
  unfold byteL
  cases hk : l[k]? with
  | none => exact .inl rfl
  | some c =>
   have := letters_print hA l hl c (List.mem_of_getElem? hk)
   exact .inr ⟨by show (33 : Int) ≤ (c.toNat : Int); omega, by show (c.toNat : Int) ≤ 126; omega⟩
 have hge := copyStates_ge A.bls 2 hn
 have hle := copyStates_le A.bls 2 h3
 have hal := copyArcs_len A.bls 2 h3
 have hcl := nodup_len h.arcsInc.nodup (fun y hy => (h.mem y).1 hy)
 have hst := h.states
 refine ⟨by omega, by omega, by rw [h.start, hst]; exact ⟨by omega, by omega⟩, by omega, fun s hs' => ?_, by rw [h.final]; simp, fun a ha => ?_, h.arcsInc⟩
 ·rw [h.final] at hs'
  obtain rfl := List.mem_singleton.1 hs'
  rw [hst]
  exact ⟨by omega, by omega⟩
 ·rw [hst]
  exact copy_in A.bls 2 (Nat.le_refl _) hn hs (Nat.le_refl _) a ((h.mem a).1 ha)
/-- The copy machine of an alphabet reads no silent circle: it has no silent arc. -/
theorem CopyM.plain {A : Alph} (hA : Valid10 A) {C : Mach} (h : CopyM A.bls C) : ¬ Circle C := by
 have hT := told_of hA
 rintro ⟨s, hs⟩
 obtain ⟨c, ⟨a, ha, _⟩, _⟩ := way_first hs
 obtain ⟨h1, _, h3⟩ := mem_runA.1 ha
 obtain ⟨⟨l, hl, k, q1, q2, _⟩, _⟩ := copy_from A.bls 2 (Nat.le_refl _) (fun l hl => (hT.len l hl).1) a ((h.mem a).1 h1)
 rw [h3] at q2
 unfold byteL at q2
 rw [List.getElem?_eq_getElem q1] at q2
 have := letters_print hA l hl _ (List.getElem_mem q1)
 simp only at q2
 omega
end Go.Proofs.YthachfkcgdfdfaaGreatDoor

namespace Go.Proofs.YthachfkcgdfdfaaGreatDoor
open Go Classical

end Go.Proofs.YthachfkcgdfdfaaGreatDoor

namespace Go.Proofs.YthachfkcgdfdfaaGreatDoor
open Go Classical

theorem ArcsOf.uniq {l S S' : List Arc} (h : ArcsOf l S) (h' : ArcsOf l S') : S = S' := Increasing.ext h.1 h'.1 (fun a => by rw [h.2, h'.2])
section
variable {M N C C' : Mach} {e e' : Int}
theorem CompOut.uniq (h : CompOut M N C e) (h' : CompOut M N C' e') : C = C' ∧ e = e' := by
 rcases h with ⟨n, rfl, rfl⟩ | ⟨hM, hN, S, hS, h⟩ <;> rcases h' with ⟨n', rfl, rfl⟩ | ⟨hM', hN', S', hS', h'⟩
 ·exact ⟨rfl, rfl⟩
 ·exact absurd ⟨hM', hN'⟩ n
 ·exact absurd ⟨hM, hN⟩ n'
 ·obtain rfl := hS.uniq hS'
  rcases h with ⟨b, rfl, rfl⟩ | ⟨b, rfl, rfl⟩ <;> rcases h' with ⟨b', rfl, rfl⟩ | ⟨b', rfl, rfl⟩
  ·exact ⟨rfl, rfl⟩
  ·exact absurd b b'
  ·exact absurd b' b
  ·exact ⟨rfl, rfl⟩
end

theorem CopyM.uniq {L : List (List UInt8)} {C C' : Mach} (h : CopyM L C) (h' : CopyM L C') : C = C' := by
 have e1 : C.states = C'.states := h.states.trans h'.states.symm
 have e2 : C.start = C'.start := h.start.trans h'.start.symm
 have e3 : C.final = C'.final := h.final.trans h'.final.symm
 have e4 : C.arcs = C'.arcs := Increasing.ext h.arcsInc h'.arcsInc (fun a => by rw [h.mem, h'.mem])
 obtain ⟨a, b, c, d⟩ := C
 obtain ⟨a', b', c', d'⟩ := C'
 simp only at e1 e2 e3 e4
 subst e1 e2 e3 e4
 rfl
end Go.Proofs.YthachfkcgdfdfaaGreatDoor

namespace Go.Proofs.YthachfkcgdfdfaaGreatDoor
open Go Classical

section
variable {A : Alph} {M C D : Mach}
theorem copy_result (hA : Valid10 A) (h : CopyM A.bls C) {x : List UInt8} {t : ByteArray} : Result C x t ↔ bl t = x ∧ Cat A.bls x :=
 h.result (fun l hl => ((told_of hA).len l hl).1) (fun l hl c hc e => by have := letters_print hA l hl c hc; rw [e] at this; simp at this) (fun a ha => ((h.valid hA).arcs a ha).2.2.1)
theorem walk_endP {l : List Arc} {s t : Int} {x y : List UInt8} (k : Walk l s x y t) : t = s ∨ ∃ a ∈ l, t = a.to := by
 cases k with
 | nil => exact .inl rfl
 | snoc _ ha => exact .inr ⟨_, ha, rfl⟩
/-- The places of the copy machine: few. -/
theorem copy_few (hA : Valid10 A) (h : CopyM A.bls C) (l : List UInt8) : FewPl (Reach C l) := by
 have hv := h.valid hA
 have hst := h.states
 have hn : ∀ l ∈ A.bls, 1 ≤ l.length := fun l hl => ((told_of hA).len l hl).1
 have h0 : ∀ l ∈ A.bls, ∀ c ∈ l, c ≠ 0 := fun l hl c hc e => by have := letters_print hA l hl c hc; rw [e] at this; simp at this
 have hle := copyStates_le A.bls 2 (fun l hl => ((told_of hA).len l hl).2)
 have h64 : A.bls.length ≤ 64 := by unfold Alph.bls; rw [List.length_map]; exact hA.1.2.2.1
 refine ⟨(List.range (copyStates 2 A.bls)).map (fun s : Nat => ⟨(s : Int), ⟨l.toArray⟩⟩), by rw [List.length_map, List.length_range]; omega, fun p hp => ?_⟩
 have hw := reach_walk l p hp
 rw [h.start] at hw
 have e := (copy_walk hn h0 (fun a ha => (h.mem a).1 ha) hw).1
 have hend : StateOk C.states p.st := by
  rcases walk_endP hw with e1 | ⟨a, ha, e1⟩
  ·rw [e1, hst]; exact ⟨by omega, by have := copyStates_ge A.bls 2 hn; omega⟩
  ·rw [e1]; exact (hv.arcs a ha).2.1
 rw [hst] at hend
 obtain ⟨st, tx⟩ := p
 obtain ⟨q1, q2⟩ := hend
 simp only at q1 q2 e
 refine List.mem_map.2 ⟨st.toNat, List.mem_range.2 (by omega), ?_⟩
 simp only [Plc.mk.injEq]
 exact ⟨by omega, bl_inj (by rw [e]; simp [bl])⟩
/-- The copy machine answers: the text itself, or nothing. -/
theorem copy_runs (hA : Valid10 A) (h : CopyM A.bls C) {x : ByteArray} (hx : x.size ≤ 400) {ts : List ByteArray} {e : Int} (hr : RunsOf C (bl x) ts e) : e = 0 ∧ ((Cat A.bls (bl x) ∧ ts = [x]) ∨ (¬ Cat A.bls (bl x) ∧ ts = [])) := by
 rcases runs_cases hr (h.valid hA) (by rw [bl_length]; exact hx) with ⟨_, c⟩ | ⟨_, ⟨_, i, _, hf⟩ | ⟨e0, _, s, m⟩⟩
 ·exact absurd c (h.plain hA)
 ·exact absurd (copy_few hA h _) hf
 ·refine ⟨e0, ?_⟩
  have hm : ∀ t, t ∈ ts ↔ t = x ∧ Cat A.bls (bl x) := fun t => by
   rw [m, copy_result hA h]
   exact ⟨fun q => ⟨bl_inj q.1, q.2⟩, fun q => ⟨by rw [q.1], q.2⟩⟩
  by_cases hc : Cat A.bls (bl x)
  ·refine .inl ⟨hc, s.ext ⟨by simp, by simp⟩ (fun t => ?_)⟩
   rw [hm, List.mem_singleton]
   exact ⟨fun q => q.1, fun q => ⟨q, hc⟩⟩
  ·refine .inr ⟨hc, List.eq_nil_iff_forall_not_mem.2 (fun t ht => hc ((hm t).1 ht).2)⟩
end
end Go.Proofs.YthachfkcgdfdfaaGreatDoor

namespace Go.Proofs.YthachfkcgdfdfaaGreatDoor
open Go Classical

section
variable {M N : Mach} {st st' : PSt} {i : Nat}
end
end Go.Proofs.YthachfkcgdfdfaaGreatDoor

namespace Go.Proofs.YthachfkcgdfdfaaGreatDoor
open Go Classical

end Go.Proofs.YthachfkcgdfdfaaGreatDoor
namespace Go.Proofs.YthachfkcgdfdfaaGreatDoor
open Go Classical

theorem FoldOf.uniq {A : Alph} {t s s' : ByteArray} {e e' : Int} (h : FoldOf A t s e) (k : FoldOf A t s' e') : s = s' ∧ e = e' := by
 rcases h with ⟨h1, h2, h3, rfl⟩ | ⟨h1, h2, rfl⟩ <;> rcases k with ⟨k1, k2, k3, rfl⟩ | ⟨k1, k2, rfl⟩
 ·exact ⟨bl_inj (h3.trans k3.symm), rfl⟩
 ·exact absurd ⟨h1, h2⟩ k1
 ·exact absurd ⟨k1, k2⟩ h1
 ·exact ⟨bl_inj (h2.trans k2.symm), rfl⟩

theorem OnlyOf.uniq {p : ByteArray → Prop} {ts : List ByteArray} {s s' : ByteArray} {e e' : Int} (h : OnlyOf p ts s e) (k : OnlyOf p ts s' e') : s = s' ∧ e = e' := by
 rcases h with ⟨h1, h2, rfl⟩ | ⟨h1, rfl⟩ | ⟨h1, h2, rfl⟩ <;> rcases k with ⟨k1, k2, rfl⟩ | ⟨k1, rfl⟩ | ⟨k1, k2, rfl⟩
 ·exact ⟨bl_inj (h2.trans k2.symm), rfl⟩
 ·rw [h1] at k1; cases k1
 ·rw [h1] at k1; simp at k1
 ·rw [h1] at k1; cases k1
 ·rw [h1] at k1; exact ⟨by simpa using k1, rfl⟩
 ·rw [h1] at k1; simp at k1
 ·rw [k1] at h1; simp at h1
 ·rw [k1] at h1; simp at h1
 ·exact ⟨bl_inj (h2.trans k2.symm), rfl⟩

end Go.Proofs.YthachfkcgdfdfaaGreatDoor
namespace Go.Proofs.YthachfkcgdfdfaaGreatDoor
open Go Classical

theorem CompileOf.uniq {R : Ruls} {A : Alph} {M N : Mach} (h : CompileOf R A M) (k : CompileOf R A N) : M = N := by
 obtain ⟨m1, m2, m3, m4⟩ := M
 obtain ⟨n1, n2, n3, n4⟩ := N
 have e1 : m1 = n1 := h.states.trans k.states.symm
 have e2 : m2 = n2 := h.start.trans k.start.symm
 have e3 : m3 = n3 := h.final.trans k.final.symm
 have e4 : m4 = n4 := h.inc.ext k.inc (fun x => (h.mem x).trans (k.mem x).symm)
 rw [e1, e2, e3, e4]
theorem InvOf.uniq {M N N' : Mach} (h : InvOf M N) (k : InvOf M N') : N = N' := by
 obtain ⟨m1, m2, m3, m4⟩ := N
 obtain ⟨n1, n2, n3, n4⟩ := N'
 have e1 : m1 = n1 := h.states.trans k.states.symm
 have e2 : m2 = n2 := h.start.trans k.start.symm
 have e3 : m3 = n3 := h.final.trans k.final.symm
 have e4 : m4 = n4 := h.inc.ext k.inc (fun x => (h.mem x).trans (k.mem x).symm)
 rw [e1, e2, e3, e4]
section
variable {b : Brid} {i j : Nat} {M N : Mach}
theorem ValidB.rule_uniq (hv : ValidB b) {r s : Ruls} (h : RuleIn b i j r) (k : RuleIn b i j s) : r = s := by
 obtain ⟨h1, A, B, hA, hB⟩ := h
 obtain ⟨k1, A', B', kA, kB⟩ := k
 have eA : A = A' := Option.some.inj (hA.1.symm.trans kA.1)
 have eB : B = B' := Option.some.inj (hB.1.symm.trans kB.1)
 subst eA eB
 have e : (r.src, r.dst) = (s.src, s.dst) := by rw [← hA.2, ← hB.2, kA.2, kB.2]
 obtain ⟨x, hx⟩ := List.getElem?_of_mem h1
 obtain ⟨y, hy⟩ := List.getElem?_of_mem k1
 have hn := hv.rls.twice
 obtain ⟨hxl, ex⟩ := List.getElem?_eq_some_iff.1 hx
 obtain ⟨hyl, ey⟩ := List.getElem?_eq_some_iff.1 hy
 have : x = y := by
  refine (List.getElem_inj (h₀ := by simpa using hxl) (h₁ := by simpa using hyl) hn).1 ?_
  rw [List.getElem_map, List.getElem_map, ex, ey]; exact e
 subst this
 exact ex.symm.trans ey
theorem MadeOf.uniq (hv : ValidB b) (h : MadeOf b i j M) (k : MadeOf b i j N) : M = N := by
 obtain ⟨A, hA, h⟩ := h
 obtain ⟨A', hA', k⟩ := k
 obtain rfl := Option.some.inj (hA.symm.trans hA')
 rcases h with ⟨e, h⟩ | ⟨e, r, hr, h⟩ <;> rcases k with ⟨e', k⟩ | ⟨e', s, hs, k⟩
 ·exact h.uniq k
 ·exact absurd e e'
 ·exact absurd e' e
 ·obtain rfl := hv.rule_uniq hr hs
  exact h.uniq k
theorem MachOf.uniq (hv : ValidB b) {e f : Int} (h : MachOf b i j M e) (k : MachOf b i j N f) : M = N ∧ e = f := by
 rcases h with ⟨h1, h2, rfl⟩ | ⟨h1, X, Y, Z, hX, hY, hZ, hc⟩ <;> rcases k with ⟨k1, k2, rfl⟩ | ⟨k1, X', Y', Z', kX, kY, kZ, kc⟩
 ·exact ⟨h2.uniq hv k2, rfl⟩
 ·exact absurd h1 k1
 ·exact absurd k1 h1
 ·obtain rfl := hX.uniq hv kX
  obtain rfl := hY.uniq hv kY
  obtain rfl := hZ.uniq kZ
  exact hc.uniq kc
theorem MachineOut.uniq {x y e f : Int} (h : MachineOut b x y M e) (k : MachineOut b x y N f) : M = N ∧ e = f := by
 rcases h with ⟨h1, rfl, rfl⟩ | ⟨h0, i, j, rfl, rfl, hi, hj, h⟩ <;> rcases k with ⟨k1, rfl, rfl⟩ | ⟨k0, i', j', e1, e2, ki, kj, k⟩
 ·exact ⟨rfl, rfl⟩
 ·subst e1 e2
  exact absurd ⟨k0, by omega, by omega, by omega, by omega⟩ h1
 ·exact absurd ⟨h0, by omega, by omega, by omega, by omega⟩ k1
 ·obtain rfl : i = i' := by omega
  obtain rfl : j = j' := by omega
  exact h.uniq h0 k

theorem RunsOf.uniq {x : List UInt8} {ts us : List ByteArray} {e f : Int} (h : RunsOf M x ts e) (k : RunsOf M x us f) : ts = us ∧ e = f := by
 rcases h with ⟨h1, rfl, rfl⟩ | ⟨h1, h⟩ <;> rcases k with ⟨k1, rfl, rfl⟩ | ⟨k1, k⟩
 ·exact ⟨rfl, rfl⟩
 ·exact absurd k1 h1
 ·exact absurd h1 k1
 rcases h with ⟨h2, rfl, rfl⟩ | ⟨h2, h⟩ <;> rcases k with ⟨k2, rfl, rfl⟩ | ⟨k2, k⟩
 ·exact ⟨rfl, rfl⟩
 ·exact absurd h2 k2
 ·exact absurd k2 h2
 rcases h with ⟨⟨z, hz, hz'⟩, rfl, rfl⟩ | ⟨h3, rfl, hs, hm⟩ <;> rcases k with ⟨⟨z', kz, kz'⟩, rfl, rfl⟩ | ⟨k3, rfl, ks, km⟩
 ·exact ⟨rfl, rfl⟩
 ·exact absurd (k3 z hz) hz'
 ·exact absurd (h3 z' kz) kz'
 ·exact ⟨hs.ext ks (fun t => (hm t).trans (km t).symm), rfl⟩
theorem WriteOut.uniq {x y : Int} {word s t : ByteArray} {e f : Int} (h : WriteOut b x y word s e) (k : WriteOut b x y word t f) : s = t ∧ e = f := by
 obtain ⟨M, e1, hM, h⟩ := h
 obtain ⟨N, f1, kM, k⟩ := k
 obtain ⟨rfl, rfl⟩ := hM.uniq kM
 have em : ∀ {s t : ByteArray}, bl s = [] → bl t = [] → s = t := fun h k => bl_inj (h.trans k.symm)
 rcases h with ⟨h0, h1, rfl⟩ | ⟨h0, A, B, hA, hB, fo, e2, hf, h⟩ <;> rcases k with ⟨k0, k1, rfl⟩ | ⟨k0, A', B', kA, kB, fo', f2, kf, k⟩
 ·exact ⟨em h1 k1, rfl⟩
 ·exact absurd k0 h0
 ·exact absurd h0 k0
 obtain rfl := Option.some.inj (hA.symm.trans kA)
 obtain rfl := Option.some.inj (hB.symm.trans kB)
 obtain ⟨rfl, rfl⟩ := hf.uniq kf
 rcases h with ⟨h2, h1, rfl⟩ | ⟨h2, ts, e3, hr, h⟩ <;> rcases k with ⟨k2, k1, rfl⟩ | ⟨k2, us, f3, kr, k⟩
 ·exact ⟨em h1 k1, rfl⟩
 ·exact absurd k2 h2
 ·exact absurd h2 k2
 obtain ⟨rfl, rfl⟩ := hr.uniq kr
 rcases h with ⟨h3, h1, rfl⟩ | ⟨h3, h⟩ <;> rcases k with ⟨k3, k1, rfl⟩ | ⟨k3, k⟩
 ·exact ⟨em h1 k1, rfl⟩
 ·exact absurd k3 h3
 ·exact absurd h3 k3
 ·exact h.uniq k
end
end Go.Proofs.YthachfkcgdfdfaaGreatDoor
namespace Go.Proofs.YthachfkcgdfdfaaGreatDoor
open Go Classical

theorem partsOf_join : ∀ {l : List (List UInt8)}, l ≠ [] → (∀ p ∈ l, 32 ∉ p) → partsOf (joinB l) = l
 | [], h, _ => absurd rfl h
 | [p], _, h => by
  have := partsGo_word p [] [] (h p (List.mem_cons_self ..))
  rw [List.append_nil, List.nil_append] at this
  show partsGo p [] = [p]
  rw [this, partsGo]
 | p :: q :: l, _, h => by
  have ih := partsOf_join (l := q :: l) (by simp) (fun r hr => h r (List.mem_cons_of_mem _ hr))
  show partsGo (p ++ 32 :: joinB (q :: l)) [] = _
  rw [partsGo_word p _ [] (h p (List.mem_cons_self ..)), List.nil_append, partsGo, if_pos rfl]
  unfold partsOf at ih
  rw [ih]
theorem wordsOf_join {l : List (List UInt8)} (h : ∀ p ∈ l, p ≠ [] ∧ 32 ∉ p) : wordsOf (joinB l) = l := by
 cases l with
 | nil => rfl
 | cons p l =>
  rw [wordsOf_parts, partsOf_join (by simp) (fun q hq => (h q hq).2), List.filter_eq_self]
  intro q hq
  simpa using (h q hq).1
theorem KeyRun.uniq {Wr : List UInt8 → ByteArray → Int → Prop} (hW : ∀ w s t e f, Wr w s e → Wr w t f → s = t ∧ e = f) {ws : List (List UInt8)} {o p : List ByteArray} {e f : Int} (h : KeyRun Wr ws o e) (k : KeyRun Wr ws p f) : o = p ∧ e = f := by
 have bad : ∀ {o : List ByteArray} {e : Int}, (o.length = ws.length ∧ ∀ (i : Nat) (w : List UInt8) (s : ByteArray), ws[i]? = some w → o[i]? = some s → Wr w s 0) → ∀ {k : Nat} {w : List UInt8} {s : ByteArray}, e ≠ 0 → ws[k]? = some w → ¬ Wr w s e := by
  rintro o e ⟨hl, h⟩ k w s he hk hw
  obtain ⟨hkl, _⟩ := List.getElem?_eq_some_iff.1 hk
  have h1 := h k w o[k] hk (List.getElem?_eq_getElem (by omega))
  exact he (hW _ _ _ _ _ hw h1).2
 rcases h with ⟨rfl, h⟩ | ⟨he, rfl, i, w, s, hi, hp, hw⟩ <;> rcases k with ⟨rfl, k⟩ | ⟨ke, rfl, j, v, t, kj, kp, kv⟩
 ·refine ⟨List.ext_getElem? fun i => ?_, rfl⟩
  rcases Nat.lt_or_ge i ws.length with hi | hi
  ·have h1 : i < o.length := by omega
   have k1 : i < p.length := by omega
   rw [List.getElem?_eq_getElem h1, List.getElem?_eq_getElem k1]
   exact congrArg some (hW _ _ _ _ _ (h.2 i _ _ (List.getElem?_eq_getElem hi) (List.getElem?_eq_getElem h1)) (k.2 i _ _ (List.getElem?_eq_getElem hi) (List.getElem?_eq_getElem k1))).1
  ·rw [List.getElem?_eq_none (by omega), List.getElem?_eq_none (by omega)]
 ·exact absurd kv (bad h ke kj)
 ·exact absurd hw (bad k he hi)
 ·refine ⟨rfl, ?_⟩
  rcases Nat.lt_trichotomy i j with h1 | rfl | h1
  ·obtain ⟨r, hr⟩ := kp i w h1 hi
   exact absurd (hW _ _ _ _ _ hw hr).2 he
  ·obtain rfl := Option.some.inj (hi.symm.trans kj)
   exact (hW _ _ _ _ _ hw kv).2
  ·obtain ⟨r, hr⟩ := hp j v h1 kj
   exact absurd (hW _ _ _ _ _ kv hr).2 ke
theorem KeyOut.uniq {b : Brid} {lang : ByteArray} {i : Int} {t s s' : List UInt8} {e e' : Int} (h : KeyOut b lang i t s e) (k : KeyOut b lang i t s' e') : s = s' ∧ e = e' := by
 rcases h with ⟨h1, rfl, rfl⟩ | ⟨h1, o, e1, hr, h⟩ <;> rcases k with ⟨k1, rfl, rfl⟩ | ⟨k1, p, f1, kr, k⟩
 ·exact ⟨rfl, rfl⟩
 ·exact absurd k1 h1
 ·exact absurd h1 k1
 obtain ⟨rfl, rfl⟩ := hr.uniq (Wr := BaseW b i) (fun w s t e f h k => WriteOut.uniq h k) kr
 rcases h with ⟨h2, rfl, rfl⟩ | ⟨h2, h3, rfl, rfl⟩ | ⟨h2, h3, rfl, rfl⟩ <;> rcases k with ⟨k2, rfl, rfl⟩ | ⟨k2, k3, rfl, rfl⟩ | ⟨k2, k3, rfl, rfl⟩
 ·exact ⟨rfl, rfl⟩
 ·exact absurd k2 h2
 ·exact absurd k2 h2
 ·exact absurd h2 k2
 ·exact ⟨rfl, rfl⟩
 ·omega
 ·exact absurd h2 k2
 ·omega
 ·exact ⟨rfl, rfl⟩
end Go.Proofs.YthachfkcgdfdfaaGreatDoor
namespace Go.Proofs.YthachfkcgdfdfaaGreatDoor
open Go.RowKit Classical

/-- A test that says no more than this where it says yes. -/
def TestPost (P : Prop) (e : Ending) : Prop := ∃ q : Bool, e = .returned (.bool q) ∧ (q = true → P)
theorem test_no (P : Prop) : TestPost P (.returned (.bool false)) := ⟨false, rfl, fun h => by cases h⟩
theorem test_of {P : Prop} {q : Bool} (h : q = true → P) : TestPost P (.returned (.bool q)) := ⟨q, rfl, h⟩
theorem joinB_snoc : ∀ (l : List (List UInt8)) (p : List UInt8), l ≠ [] → joinB (l ++ [p]) = joinB l ++ 32 :: p
 | [], _, h => absurd rfl h
 | [q], p, _ => rfl
 | q :: r :: l, p, _ => by
  have ih := joinB_snoc (r :: l) p (by simp)
  show q ++ 32 :: joinB ((r :: l) ++ [p]) = (q ++ 32 :: joinB (r :: l)) ++ 32 :: p
  rw [ih]; simp
theorem join_one {ts : List ByteArray} {k : Nat} (hk : k < ts.length) (h0 : k = 0) {t : ByteArray} (ht : bl t = joinB ((ts.take k).map bl)) : bl (t ++ ts[k]) = joinB ((ts.take (k + 1)).map bl) := by
 subst h0
 rw [bl_add, ht, List.take_add_one, List.getElem?_eq_getElem hk]
 rfl
theorem join_more {ts : List ByteArray} {k : Nat} (hk : k < ts.length) (h0 : 0 < k) {t : ByteArray} (ht : bl t = joinB ((ts.take k).map bl)) : bl (t ++ ⟨#[32]⟩ ++ ts[k]) = joinB ((ts.take (k + 1)).map bl) := by
 rw [bl_add, bl_add, ht, List.take_add_one, List.getElem?_eq_getElem hk, Option.toList_some, List.map_append, List.map_singleton, joinB_snoc _ _ (by
  intro e
  have := congrArg List.length e
  rw [List.length_map, List.length_take, List.length_nil] at this
  omega), List.append_assoc]
 rfl
set_option maxRecDepth 100000 in
set_option maxHeartbeats 1000000 in
/-- Texts joined by a blank. -/
theorem Join17_any (ts : List ByteArray) (ta : Option Addr) (tc : Nat) (hlen : ts.length ≤ 1000) (hsz : ∀ s ∈ ts, s.size ≤ 1000) (w : World) (h : RowAt w w.heap.size ta (strs ts)) :
  Calls Tryz.prog 25 #[.slice ta ts.length tc] w fun e w' => (∃ s : ByteArray, e = .returned (.string s) ∧ bl s = joinB (ts.map bl) ∧ s.size ≤ 1001 * ts.length) ∧ w' = w := by
 go_enter Tryz.func25, Tryz.ntmps25
 go_wp2_with fail
 go_loop [3, 4] (fun o i => ∃ (k : Nat) (t : ByteArray), k ≤ ts.length ∧ o = .string t ∧ i = .int .i64 k ∧ bl t = joinB ((ts.take k).map bl) ∧ t.size ≤ 1001 * k) (fun _ i => ts.length - (intOf i).toNat)
 case atStart => exact ⟨0, ⟨#[]⟩, Nat.zero_le _, rfl, rfl, rfl, Nat.le_refl _⟩
 case round =>
  obtain ⟨k, t, hk, rfl, rfl, ht, hts⟩ := hrel
  have Ht := Lib.hid ht
  clear ht
  by_cases hlt : k < ts.length
  ·obtain ⟨b, off, rfl, hb, hc⟩ := h.strs (by omega)
   have k0 := hc k hlt
   have hs := hsz _ (List.getElem_mem hlt)
   have H1 := Lib.hid (fun h0 : k = 0 => join_one hlt h0 Ht.out)
   have H2 := Lib.hid (fun h0 : 0 < k => join_more hlt h0 Ht.out)
   obtain ⟨x, hx⟩ : ∃ x, x = ts[k] := ⟨_, rfl⟩
   rw [← hx] at k0 hs H1 H2
   clear hc hx
   have hz1 : ((⟨#[32]⟩ : ByteArray)).size = 1 := rfl
   have hz2 := size_add t ⟨#[32]⟩
   have hz3 := size_add (t ++ ⟨#[32]⟩) x
   have hz4 := size_add t x
   by_cases h0 : 0 < k
   ·have hadd1 : ∀ W, (Op.stringOp .add t ⟨#[32]⟩).run Tryz.prog W = .ok (.string (t ++ ⟨#[32]⟩)) W := fun W => run_string_add_sum W _ _ (by omega)
    have hadd2 : ∀ W, (Op.stringOp .add (t ++ ⟨#[32]⟩) x).run Tryz.prog W = .ok (.string (t ++ ⟨#[32]⟩ ++ x)) W := fun W => run_string_add_sum W _ _ (by omega)
    have Hz := Lib.hid (show (t ++ ⟨#[32]⟩ ++ x).size ≤ 1001 * (k + 1) by omega)
    clear hz1 hz2 hz3 hz4
    go_wp2
    exact ⟨⟨k + 1, _, by omega, rfl, by go_num, H2.out h0, Hz.out⟩, by simp [intOf]; omega⟩
   ·have hadd2 : ∀ W, (Op.stringOp .add t x).run Tryz.prog W = .ok (.string (t ++ x)) W := fun W => run_string_add_sum W _ _ (by omega)
    have Hz := Lib.hid (show (t ++ x).size ≤ 1001 * (k + 1) by omega)
    clear hz1 hz2 hz3 hz4
    go_wp2
    exact ⟨⟨k + 1, _, by omega, rfl, by go_num, H1.out (by omega), Hz.out⟩, by simp [intOf]; omega⟩
  ·obtain rfl : k = ts.length := by omega
   have Ht2 := Lib.hid (show bl t = joinB (ts.map bl) by have := Ht.out; rwa [List.take_length] at this)
   go_wp2
   go_ret
   exact ⟨⟨t, rfl, Ht2.out, hts⟩, rfl⟩
end Go.Proofs.YthachfkcgdfdfaaGreatDoor
namespace Go.Proofs.YthachfkcgdfdfaaGreatDoor
open Go Classical

section
variable {b : Brid} {lang : ByteArray} {i : Int} {t : List UInt8}
theorem NameOk.lang' (h : NameOk b lang i t) {g : ByteArray} (hg : nameB (bl g) = true) : NameOk b g i t := ⟨h.brid, hg, h.script, h.few, h.word⟩
theorem NameOk.folded (h : NameOk b lang i t) {A : Alph} (hA : b.scripts[i.toNat]? = some A) : NameOk b lang i (joinB ((wordsOf t).map (foldL A))) ∧ wordsOf (joinB ((wordsOf t).map (foldL A))) = (wordsOf t).map (foldL A) := by
 have hv := h.brid.scr.alph A (List.mem_of_getElem? hA)
 obtain ⟨h1, h2, h3, h4⟩ := h.parts hA
 have hw : ∀ p ∈ (wordsOf t).map (foldL A), (readL A.bls p).err = 0 := fun p hp => by
  obtain ⟨q, hq, rfl⟩ := List.mem_map.1 hp
  rw [h2] at hq
  exact (fold_word hv (h.word A hA q hq)).1
 have hb : ∀ p ∈ (wordsOf t).map (foldL A), p ≠ [] ∧ 32 ∉ p := fun p hp => (word_no_blank hv (hw p hp)).symm
 have hn : (wordsOf t).map (foldL A) ≠ [] := fun e => by
  have := congrArg List.length e
  simp at this; rw [this] at h3; simp at h3
 have hp := partsOf_join hn (fun p hp => (hb p hp).2)
 refine ⟨⟨h.brid, h.lang, h.script, by rw [hp, List.length_map]; exact h4, fun A' hA' p hq => ?_⟩, wordsOf_join hb⟩
 obtain rfl := Option.some.inj (hA.symm.trans hA')
 rw [hp] at hq
 exact hw p hq
/-- A folded word is written as the word is. -/
theorem write_fold {x y : Int} {A : Alph} (hA : b.scripts[x.toNat]? = some A) {word g s : ByteArray} {e : Int} (hr : (readL A.bls (bl word)).err = 0) (hg : bl g = foldL A (bl word)) (h : WriteOut b x y word s e) : WriteOut b x y g s e := by
 obtain ⟨M, e1, hM, h⟩ := h
 refine ⟨M, e1, hM, ?_⟩
 rcases h with h | ⟨h0, A', B, hA', hB, f, e2, hf, h⟩
 ·exact .inl h
 obtain rfl := Option.some.inj (hA.symm.trans hA')
 refine .inr ⟨h0, A, B, hA, hB, f, e2, ?_, h⟩
 rcases hf with ⟨q1, q2, q3, rfl⟩ | ⟨q1, q2, rfl⟩
 ·obtain ⟨r1, r2, _⟩ := fold_word q1 hr
  exact .inl ⟨q1, by rw [hg]; exact r1, by rw [hg, r2]; exact q3, rfl⟩
 ·refine .inr ⟨fun q => q1 ⟨q.1, hr⟩, q2, rfl⟩
theorem baseW_fold (h : ValidB b) {A : Alph} (hA : b.scripts[i.toNat]? = some A) {w : List UInt8} (hr : (readL A.bls w).err = 0) {s : ByteArray} {e : Int} : BaseW b i (foldL A w) s e ↔ BaseW b i w s e := by
 constructor
 ·intro q
  obtain ⟨M, e1, hM, q⟩ := q
  refine ⟨M, e1, hM, ?_⟩
  rcases q with q | ⟨h0, A', B, hA', hB, f, e2, hf, q⟩
  ·exact .inl q
  obtain rfl := Option.some.inj (hA.symm.trans hA')
  refine .inr ⟨h0, A, B, hA, hB, f, e2, ?_, q⟩
  have hv := h.scr.alph A (List.mem_of_getElem? hA)
  obtain ⟨r1, r2, _⟩ := fold_word hv hr
  rcases hf with ⟨q1, q2, q3, rfl⟩ | ⟨q1, q2, rfl⟩
  ·rw [bl_bs, r2] at q3
   exact .inl ⟨q1, by rw [bl_bs]; exact hr, by rw [bl_bs]; exact q3, rfl⟩
  ·rw [bl_bs] at q1
   exact absurd ⟨hv, r1⟩ q1
 ·intro q
  exact write_fold hA (by rw [bl_bs]; exact hr) (by rw [bl_bs, bl_bs]) q
/-- What is written in the base script is a word of it. -/
theorem baseW_word {w : List UInt8} {s : ByteArray} (hs : BaseW b i w s 0) : ∃ B, b.scripts[0]? = some B ∧ (readL B.bls (bl s)).err = 0 := by
 obtain ⟨M, e1, hM, hs⟩ := hs
 rcases hs with ⟨h0, _, e⟩ | ⟨h0, A, B, hA, hB, f, e2, hf, hs⟩
 ·exact absurd e.symm h0
 refine ⟨B, by simpa using hB, ?_⟩
 rcases hs with ⟨_, _, e⟩ | ⟨_, ts, e3, hr, hs⟩
 ·cases e
 rcases hs with ⟨h3, _, e⟩ | ⟨_, hs⟩
 ·exact absurd e.symm h3
 rcases hs with ⟨_, _, e⟩ | ⟨hs, _⟩ | ⟨_, _, e⟩
 ·cases e
 ·have : s ∈ ts.filter (fun t => decide (WordOf B t)) := by rw [hs]; exact List.mem_singleton.2 rfl
  have h2 : WordOf B s := of_decide_eq_true (List.mem_filter.1 this).2
  exact h2
 ·cases e
/-- In the base script itself a word is written as its folded word. -/
theorem baseW_own (h : ValidB b) {A : Alph} (hA : b.scripts[0]? = some A) {w : List UInt8} (hr : (readL A.bls w).err = 0) {s : ByteArray} {e : Int} (hs : BaseW b 0 w s e) : e = 0 ∧ bl s = foldL A w := by
 have hv := h.scr.alph A (List.mem_of_getElem? hA)
 obtain ⟨r1, r2, r3, r4⟩ := fold_word hv hr
 obtain ⟨M, e1, hM, hs⟩ := hs
 obtain ⟨hlt, _⟩ := List.getElem?_eq_some_iff.1 hA
 rcases hM with ⟨n, _, _⟩ | ⟨_, x, y, ex, ey, hx, hy, hM⟩
 ·exact absurd ⟨h, by omega, by omega, by omega, by omega⟩ n
 obtain rfl : x = 0 := by omega
 obtain rfl : y = 0 := by omega
 rcases hM with ⟨_, hM, rfl⟩ | ⟨n, _⟩
 ·obtain ⟨A', hA', hM⟩ := hM
  obtain rfl := Option.some.inj (hA.symm.trans hA')
  rcases hM with ⟨_, hM⟩ | ⟨n, _⟩
  ·rcases hs with ⟨h0, _⟩ | ⟨_, A', B, hA', hB, f, e2, hf, hs⟩
   ·exact absurd rfl h0
   obtain rfl := Option.some.inj (hA.symm.trans hA')
   obtain rfl := Option.some.inj (hA.symm.trans hB)
   rcases hf with ⟨_, _, q3, rfl⟩ | ⟨n, _⟩
   ·rw [bl_bs] at q3
    rcases hs with ⟨n, _⟩ | ⟨_, ts, e3, hrun, hs⟩
    ·exact absurd rfl n
    have hsz : f.size ≤ 400 := by rw [← bl_length, q3]; omega
    obtain ⟨rfl, q⟩ := copy_runs hv hM hsz hrun
    rcases hs with ⟨n, _⟩ | ⟨_, hs⟩
    ·exact absurd rfl n
    rcases q with ⟨_, rfl⟩ | ⟨n, _⟩
    ·have hp : WordOf A f := by unfold WordOf; rw [q3]; exact r1
     have hfil : [f].filter (fun t => decide (WordOf A t)) = [f] := by simp [hp]
     unfold OnlyOf at hs
     rw [hfil] at hs
     rcases hs with ⟨n, _⟩ | ⟨hs, rfl⟩ | ⟨n, _⟩
     ·cases n
     ·obtain rfl : f = s := by simpa using hs
      exact ⟨rfl, q3⟩
     ·simp at n
    ·rw [q3] at n; exact absurd r3 n
   ·rw [bl_bs] at n
    exact absurd ⟨hv, hr⟩ n
  ·exact absurd rfl n
 ·exact absurd (.inl rfl) n
/-- The words of a key are what the words of the name are written as. -/
theorem key_words (h : NameOk b lang i t) {s : List UInt8} (hk : KeyOut b lang i t s 0) : ∃ outs : List ByteArray, outs.length = (wordsOf t).length ∧ (∀ (k : Nat) (w : List UInt8) (o : ByteArray), (wordsOf t)[k]? = some w → outs[k]? = some o → BaseW b i w o 0) ∧ s = joinB (outs.map bl) ∧ s.length ≤ 120 ∧ wordsOf s = outs.map bl ∧ ∀ o ∈ outs, bl o ≠ [] := by
 rcases hk with ⟨n, _⟩ | ⟨_, outs, e1, hr, hk⟩
 ·exact absurd h n
 rcases hk with ⟨h0, _, e⟩ | ⟨_, _, _, e⟩ | ⟨rfl, h3, rfl, _⟩
 ·exact absurd e.symm h0
 ·cases e
 rcases hr with ⟨_, hl, hr⟩ | ⟨n, _⟩
 ·have hB : ∀ o ∈ outs, bl o ≠ [] ∧ 32 ∉ bl o := fun o ho => by
   obtain ⟨k, hk⟩ := List.getElem?_of_mem ho
   obtain ⟨hkl, _⟩ := List.getElem?_eq_some_iff.1 hk
   obtain ⟨B, hB, hw⟩ := baseW_word (hr k _ o (List.getElem?_eq_getElem (by omega)) hk)
   exact (word_no_blank (h.brid.scr.alph B (List.mem_of_getElem? hB)) hw).symm
  refine ⟨outs, hl, hr, rfl, h3, wordsOf_join (fun p hp => ?_), fun o ho => (hB o ho).1⟩
  obtain ⟨o, ho, rfl⟩ := List.mem_map.1 hp
  exact hB o ho
 ·exact absurd rfl n
/-- Another Lang; folded words: the same key. -/
theorem key_lang (h : NameOk b lang i t) {g : ByteArray} (hg : nameB (bl g) = true) {s s' : List UInt8} {e e' : Int} (hk : KeyOut b lang i t s e) (hk' : KeyOut b g i t s' e') : s' = s ∧ e' = e := by
 rcases hk with ⟨n, _⟩ | ⟨_, q⟩
 ·exact absurd h n
 ·exact (KeyOut.uniq (.inr ⟨h.lang' hg, q⟩) hk').imp Eq.symm Eq.symm
theorem key_fold (h : NameOk b lang i t) {A : Alph} (hA : b.scripts[i.toNat]? = some A) {s s' : List UInt8} {e e' : Int} (hk : KeyOut b lang i t s e) (hk' : KeyOut b lang i (joinB ((wordsOf t).map (foldL A))) s' e') : s' = s ∧ e' = e := by
 obtain ⟨hf, hw⟩ := h.folded hA
 obtain ⟨h1, h2, _, _⟩ := h.parts hA
 have hrd : ∀ (k : Nat) (w : List UInt8), (wordsOf t)[k]? = some w → (readL A.bls w).err = 0 := fun k w hk => by
  rw [h2] at hk
  exact h.word A hA w (List.mem_of_getElem? hk)
 rcases hk with ⟨n, _⟩ | ⟨_, outs, e1, hr, q⟩
 ·exact absurd h n
 refine (KeyOut.uniq (.inr ⟨hf, outs, e1, ?_, q⟩) hk').imp Eq.symm Eq.symm
 rw [hw]
 rcases hr with ⟨r1, r2, r3⟩ | ⟨r1, r2, k, w, o, r3, r4, r5⟩
 ·refine .inl ⟨r1, by rw [List.length_map]; exact r2, fun k w o hk ho => ?_⟩
  rw [List.getElem?_map] at hk
  obtain ⟨v, hv, rfl⟩ := Option.map_eq_some_iff.1 hk
  exact (baseW_fold h.brid hA (hrd k v hv)).2 (r3 k v o hv ho)
 ·refine .inr ⟨r1, r2, k, foldL A w, o, by rw [List.getElem?_map, r3]; rfl, fun j v hj hv => ?_, (baseW_fold h.brid hA (hrd k w r3)).2 r5⟩
  rw [List.getElem?_map] at hv
  obtain ⟨u, hu, rfl⟩ := Option.map_eq_some_iff.1 hv
  obtain ⟨r, hr⟩ := r4 j u hj hu
  exact ⟨r, (baseW_fold h.brid hA (hrd j u hu)).2 hr⟩
/-- A name in the base script: its key is its folded words. -/
theorem key_base (h : NameOk b lang 0 t) {A : Alph} (hA : b.scripts[0]? = some A) {s : List UInt8} {e : Int} (hk : KeyOut b lang 0 t s e) : (e = 0 ↔ (joinB ((wordsOf t).map (foldL A))).length ≤ 120) ∧ (e = 0 → s = joinB ((wordsOf t).map (foldL A))) := by
 obtain ⟨h1, h2, _, _⟩ := h.parts (i := 0) hA
 rcases hk with ⟨n, _⟩ | ⟨_, outs, e1, hr, q⟩
 ·exact absurd h n
 have hrd : ∀ (k : Nat) (w : List UInt8), (wordsOf t)[k]? = some w → (readL A.bls w).err = 0 := fun k w hk => by
  rw [h2] at hk
  exact h.word A hA w (List.mem_of_getElem? hk)
 rcases hr with ⟨rfl, r2, r3⟩ | ⟨r1, r2, k, w, o, r3, r4, r5⟩
 ·have hm : outs.map bl = (wordsOf t).map (foldL A) := by
   refine List.ext_getElem? fun k => ?_
   rw [List.getElem?_map, List.getElem?_map]
   rcases Nat.lt_or_ge k outs.length with hk | hk
   ·have hk' : k < (wordsOf t).length := by omega
    have := baseW_own h.brid hA (hrd k _ (List.getElem?_eq_getElem hk')) (r3 k _ _ (List.getElem?_eq_getElem hk') (List.getElem?_eq_getElem hk))
    rw [List.getElem?_eq_getElem hk, List.getElem?_eq_getElem hk']
    simp only [Option.map_some, this.2]
   ·rw [List.getElem?_eq_none hk, List.getElem?_eq_none (by omega)]
    rfl
  rw [hm] at q
  rcases q with ⟨n, _⟩ | ⟨_, q1, rfl, rfl⟩ | ⟨_, q1, rfl, rfl⟩
  ·exact absurd rfl n
  ·refine ⟨⟨fun e => (by cases e), fun q => by omega⟩, fun e => (by cases e)⟩
  ·exact ⟨⟨fun _ => q1, fun _ => rfl⟩, fun _ => rfl⟩
 ·exact absurd (baseW_own h.brid hA (hrd k w r3) r5).1 r1
end
end Go.Proofs.YthachfkcgdfdfaaGreatDoor
namespace Go.Proofs.YthachfkcgdfdfaaGreatDoor
open Go.ChangeShapes Go.WideShapes Go.ChangeAt Go.RowKit Go.Joins Go.Deep
set_option maxRecDepth 100000
section
variable {H : Type} {enc : TypeId × Value → H} {w : World}

theorem cell_lt' {p : Addr} {v : Value} (h : w.cell? p = some v) : p.block < w.heap.size := by
 unfold World.cell? at h
 split at h
 ·rename_i e; exact (Array.getElem?_eq_some_iff.1 e).1
 ·cases h
theorem add_plain' {a : Addr} (h : a.spot = none) (i : Nat) : a.add i = ⟨a.block, a.off + i, none⟩ := by
 unfold Addr.add
 split
 ·rename_i e; subst e; cases a; simp_all
 ·rfl
theorem row_of_cells {a : Addr} {xs : List Value} (h : ∀ i x, xs[i]? = some x → w.cell? (a.add i) = some x) : RowAt w w.heap.size (some a) xs := fun h0 => by
 have h1 := h 0 _ (List.getElem?_eq_getElem h0)
 have e0 : a.add 0 = a := rfl
 rw [e0] at h1
 have hs := World.cell?_spot h1
 refine ⟨a.block, a.off, by cases a; simp_all, cell_lt' h1, fun i x hx => ?_⟩
 rw [← add_plain' hs]
 exact h i x hx

theorem read_strs {n : Nat} {v : Value} {y : DataW H × List MemPlace} (h : DataW.trod enc Tryz.prog w 0 (fun _ => true) true n 29 [v] = some y) :
  ∃ (a : Option Addr) (c : Nat) (l : List ByteArray), v = .slice a l.length c ∧ l.length ≤ maxLen ∧ (∀ s ∈ l, s.size ≤ maxLen) ∧ RowAt w w.heap.size a (strs l) := by
 rcases open_strs Tryz.underlying29 Tryz.underlying9 (by kernel_rfl) h with ⟨hcs, _⟩ | ⟨a, len, cap, m, Sx, hcs, _, hl, hm, hmm, _, hx⟩
 ·exact ⟨none, 0, [], by simpa using hcs, by simp, by simp, fun h => by simp [strs] at h⟩
 ·have hmm' : m = cap := by simpa using hmm
  refine ⟨some a, cap, (List.range len).map Sx, by simpa using hcs, by simp; omega, ?_, row_of_cells fun i x hi => ?_⟩
  ·intro s hs
   obtain ⟨i, hi, rfl⟩ := List.mem_map.1 hs
   have := List.mem_range.1 hi
   exact (hx i (by omega)).2
  ·have hi' : i < len := by
    have := (List.getElem?_eq_some_iff.1 hi).1
    simpa [strs] using this
   rw [(hx i (by omega)).1]
   simpa [strs, hi'] using hi

theorem read_ints {n : Nat} {v : Value} {y : DataW H × List MemPlace} (h : DataW.trod enc Tryz.prog w 0 (fun _ => true) true n 85 [v] = some y) :
  ∃ (a : Option Addr) (c : Nat) (l : List Int), v = .slice a l.length c ∧ l.length ≤ maxLen ∧ RowAt w w.heap.size a (nums l) := by
 rcases open_ints Tryz.underlying85 Tryz.underlying3 (by kernel_rfl) h with ⟨hcs, _⟩ | ⟨a, len, cap, zs, hcs, _, hl, hm, hz, _, hx, _⟩
 ·exact ⟨none, 0, [], by simpa using hcs, by simp, fun h => by simp [nums] at h⟩
 ·have hz' : zs.length = cap := by simpa using hz
  have hle : (zs.take len).length = len := by rw [List.length_take]; omega
  refine ⟨some a, cap, zs.take len, by rw [hle]; simpa using hcs, by omega, row_of_cells fun i x hi => ?_⟩
  have hi' : i < len := by
   have := (List.getElem?_eq_some_iff.1 hi).1
   simp [nums] at this
   omega
  rw [hx i (by omega)]
  simp only [nums, List.getElem?_map, List.getElem?_take, if_pos hi'] at hi
  rw [List.getElem?_eq_getElem (by omega)] at hi
  rw [← hi, List.getD_eq_getElem?_getD, List.getElem?_eq_getElem (by omega)]
  rfl

theorem c44 : Tryz.prog.cellsOf 103 = 4 := by kernel_rfl

theorem read_rule {n : Nat} {cs : List Value} {y : DataW H × List MemPlace} (h : DataW.trod enc Tryz.prog w 0 (fun _ => true) true n 103 cs = some y) (hl : cs.length = 4) :
  ∃ r : Rul, cs = r.cells ∧ r.src.size ≤ maxLen ∧ r.dst.size ≤ maxLen ∧ r.nxt.size ≤ maxLen := by
 obtain ⟨x0, x1, x2, x3, m, _, _, t0, t1, t2, t3⟩ := trod_struct4 Tryz.underlying103 h
 match cs, hl with
 | [k0, k1, k2, k3], _ =>
  simp only [c9, c4, List.drop_zero, List.drop_succ_cons, List.take_succ_cons, List.take_zero] at t0 t1 t2 t3
  obtain ⟨s0, e0, _, z0⟩ := DataW.trod_string Tryz.underlying9 t0
  obtain ⟨s1, e1, _, z1⟩ := DataW.trod_string Tryz.underlying9 t1
  obtain ⟨s2, e2, _, z2⟩ := DataW.trod_string Tryz.underlying9 t2
  obtain ⟨b, e3, _⟩ := DataW.trod_bool Tryz.underlying4 t3
  simp only [List.cons.injEq, and_true] at e0 e1 e2 e3
  subst e0 e1 e2 e3
  exact ⟨⟨s0, s1, s2, b⟩, rfl, z0, z1, z2⟩

theorem read_rules {n : Nat} {v : Value} {y : DataW H × List MemPlace} (h : DataW.trod enc Tryz.prog w 0 (fun _ => true) true n 104 [v] = some y) :
  ∃ (a : Option Addr) (c : Nat) (l : List Rul), v = .slice a l.length c ∧ l.length ≤ maxLen ∧ (∀ r ∈ l, r.src.size ≤ maxLen ∧ r.dst.size ≤ maxLen ∧ r.nxt.size ≤ maxLen) ∧ RowsAt w w.heap.size 4 a (l.map Rul.cells) := by
 rcases open_slice Tryz.underlying104 h with ⟨hcs, _⟩ | ⟨a, len, cap, m, q, D, Pl, hcs, _, hl, hm, hmm, _, hx⟩
 ·exact ⟨none, 0, [], by simpa using hcs, by simp, by simp, fun h => by simp at h⟩
 ·have hmm' : m = cap := by simpa using hmm
  have each : ∀ i, ∃ r : Rul, i < len → (r.src.size ≤ maxLen ∧ r.dst.size ≤ maxLen ∧ r.nxt.size ≤ maxLen) ∧ ∀ j x, r.cells[j]? = some x → w.cell? ((a.add (i * 4)).add j) = some x := fun i => by
   by_cases hi : i < len
   ·obtain ⟨cs', h1, h2⟩ := hx i (by omega)
    rw [c44] at h1
    obtain ⟨_, h3, h4⟩ := World.cells?_some h1
    obtain ⟨r, rfl, z0, z1, z2⟩ := read_rule h2 h3
    refine ⟨r, fun _ => ⟨⟨z0, z1, z2⟩, fun j x hj => ?_⟩⟩
    rw [h4 j (by have := (List.getElem?_eq_some_iff.1 hj).1; omega)]
    exact hj
   ·exact ⟨⟨⟨#[]⟩, ⟨#[]⟩, ⟨#[]⟩, false⟩, fun h => absurd h hi⟩
  obtain ⟨R, hR⟩ := Classical.axiomOfChoice each
  refine ⟨some a, cap, (List.range len).map R, by simpa using hcs, by simp; omega, ?_, fun h0 => ?_⟩
  ·intro r hr
   obtain ⟨i, hi, rfl⟩ := List.mem_map.1 hr
   exact (hR i (List.mem_range.1 hi)).1
  ·have h0' : 0 < len := by simpa using h0
   have h1 := (hR 0 h0').2 0 _ rfl
   have e0 : (a.add (0 * 4)).add 0 = a := rfl
   rw [e0] at h1
   have hs := World.cell?_spot h1
   refine ⟨a.block, a.off, by cases a; simp_all, cell_lt' h1, fun i r hi j x hj => ?_⟩
   have hi' : i < len := by
    have := (List.getElem?_eq_some_iff.1 hi).1
    simpa using this
   have hr : r = (R i).cells := by simpa [hi'] using hi.symm
   subst hr
   have := (hR i hi').2 j x hj
   rw [add_plain' hs, add_plain' rfl] at this
   exact this

end

end Go.Proofs.YthachfkcgdfdfaaGreatDoor

namespace Go.Proofs.YthachfkcgdfdfaaGreatDoor
open Go.ChangeShapes Go.WideShapes Go.ChangeAt Go.RowKit Go.Joins Go.Deep
set_option maxRecDepth 100000
section
variable {H : Type} {enc : TypeId × Value → H} {w : World}

end
end Go.Proofs.YthachfkcgdfdfaaGreatDoor

namespace Go.Proofs.YthachfkcgdfdfaaGreatDoor
open Go.ChangeShapes Go.WideShapes Go.ChangeAt Go.RowKit Go.Joins Go.Deep
set_option maxRecDepth 100000

end Go.Proofs.YthachfkcgdfdfaaGreatDoor
namespace Go.Proofs.YthachfkcgdfdfaaGreatDoor
open Go.ChangeShapes Go.WideShapes Go.ChangeAt Go.RowKit Go.Joins Go.Deep
set_option maxRecDepth 100000
section
variable {H : Type} {enc : TypeId × Value → H} {w : World}

theorem cAlph : Tryz.prog.cellsOf 89 = 3 := by kernel_rfl
theorem cRuls : Tryz.prog.cellsOf 106 = 3 := by kernel_rfl
theorem cStrs : Tryz.prog.cellsOf 29 = 1 := by kernel_rfl
theorem cInts : Tryz.prog.cellsOf 85 = 1 := by kernel_rfl
theorem cRuleL : Tryz.prog.cellsOf 104 = 1 := by kernel_rfl
theorem read_alphC {n : Nat} {cs : List Value} {y : DataW H × List MemPlace} (h : DataW.trod enc Tryz.prog w 0 (fun _ => true) true n 89 cs = some y) (hl : cs.length = 3) : ∃ A : Alph, AlphAt w w.heap.size (.agg cs.toArray) A := by
 obtain ⟨x0, x1, x2, m, _, _, t0, t1, t2⟩ := trod_struct3 Tryz.underlying89 h
 match cs, hl with
 | [k0, k1, k2], _ =>
  simp only [c9, cStrs, cInts, List.drop_zero, List.drop_succ_cons, List.take_succ_cons, List.take_zero] at t0 t1 t2
  obtain ⟨s0, e0, _, z0⟩ := DataW.trod_string Tryz.underlying9 t0
  obtain ⟨a, c, l, rfl, z1, z2, h1⟩ := read_strs t1
  obtain ⟨a', c', l', rfl, z3, h2⟩ := read_ints t2
  simp only [List.cons.injEq, and_true] at e0
  subst e0
  exact ⟨⟨s0, l, l'⟩, a, c, a', c', rfl, z0, z1, z3, z2, h1, h2⟩
theorem read_rulsC {n : Nat} {cs : List Value} {y : DataW H × List MemPlace} (h : DataW.trod enc Tryz.prog w 0 (fun _ => true) true n 106 cs = some y) (hl : cs.length = 3) : ∃ R : Ruls, RulsAt w w.heap.size (.agg cs.toArray) R := by
 obtain ⟨x0, x1, x2, m, _, _, t0, t1, t2⟩ := trod_struct3 Tryz.underlying106 h
 match cs, hl with
 | [k0, k1, k2], _ =>
  simp only [c9, cRuleL, List.drop_zero, List.drop_succ_cons, List.take_succ_cons, List.take_zero] at t0 t1 t2
  obtain ⟨s0, e0, _, z0⟩ := DataW.trod_string Tryz.underlying9 t0
  obtain ⟨s1, e1, _, z1⟩ := DataW.trod_string Tryz.underlying9 t1
  obtain ⟨a, c, l, rfl, z2, z3, hr⟩ := read_rules t2
  simp only [List.cons.injEq, and_true] at e0 e1
  subst e0 e1
  exact ⟨⟨s0, s1, l⟩, a, c, rfl, z0, z1, z2, z3, hr⟩
instance : Inhabited Sht := ⟨⟨⟨#[]⟩, ⟨#[]⟩, ⟨#[]⟩, 0⟩⟩
/-- Alphabets, rules: their cells are told by what they hold. -/
theorem read_aggs {α : Type} {t e : TypeId} {k : Nat} {At : Value → α → Prop} (ht : Tryz.prog.underlying t = some (.slice e)) (hk : Tryz.prog.cellsOf e = k) (hk0 : 0 < k)
  (hread : ∀ {n : Nat} {cs : List Value} {y : DataW H × List MemPlace}, DataW.trod enc Tryz.prog w 0 (fun _ => true) true n e cs = some y → cs.length = k → ∃ A : α, At (.agg cs.toArray) A)
  {n : Nat} {v : Value} {y : DataW H × List MemPlace} (h : DataW.trod enc Tryz.prog w 0 (fun _ => true) true n t [v] = some y) :
  ∃ (a : Option Addr) (c : Nat) (l : List α) (rows : List (List Value)), v = .slice a l.length c ∧ l.length ≤ maxLen ∧ rows.length = l.length ∧ RowsAt w w.heap.size k a rows ∧ ∀ (i : Nat) (r : List Value) (A : α), rows[i]? = some r → l[i]? = some A → r.length = k ∧ At (.agg r.toArray) A := by
 haveI : Inhabited (List Value) := ⟨[]⟩
 let Good : List Value → Prop := fun r => r.length = k ∧ ∃ A : α, At (.agg r.toArray) A
 rcases open_slice ht h with ⟨hcs, _⟩ | ⟨a, len, cap, m, q, D, Pl, hcs, _, hl, hm, hmm, _, hx⟩
 ·exact ⟨none, 0, [], [], by simpa using hcs, by simp, rfl, (fun h => by simp at h), fun i r A h => by simp at h⟩
 ·have hmm' : m = cap := by simpa using hmm
  have each : ∀ i, ∃ r : List Value, i < len → Good r ∧ ∀ j x, r[j]? = some x → w.cell? ((a.add (i * k)).add j) = some x := fun i => by
   by_cases hi : i < len
   ·obtain ⟨cs', h1, h2⟩ := hx i (by omega)
    rw [hk] at h1
    obtain ⟨_, h3, h4⟩ := World.cells?_some h1
    refine ⟨cs', fun _ => ⟨⟨h3, hread h2 h3⟩, fun j x hj => ?_⟩⟩
    rw [h4 j (by have := (List.getElem?_eq_some_iff.1 hj).1; omega)]
    exact hj
   ·exact ⟨default, fun h => absurd h hi⟩
  obtain ⟨R, hR⟩ := Classical.axiomOfChoice each
  by_cases h0 : 0 < len
  ·obtain ⟨A0, _⟩ := (hR 0 h0).1.2
   have each2 : ∀ i, ∃ A : α, i < len → At (.agg (R i).toArray) A := fun i => by
    by_cases hi : i < len
    ·obtain ⟨A, hA⟩ := (hR i hi).1.2
     exact ⟨A, fun _ => hA⟩
    ·exact ⟨A0, fun h => absurd h hi⟩
   obtain ⟨L, hL⟩ := Classical.axiomOfChoice each2
   refine ⟨some a, cap, (List.range len).map L, (List.range len).map R, by simpa using hcs, by simp; omega, by simp, fun _ => ?_, fun i r A hr hA => ?_⟩
   ·have hl0 := (hR 0 h0).1.1
    have h1 := (hR 0 h0).2 0 _ (List.getElem?_eq_getElem (by rw [hl0]; exact hk0))
    rw [Nat.zero_mul] at h1
    have e0 : (a.add 0).add 0 = a := rfl
    rw [e0] at h1
    have hs := World.cell?_spot h1
    refine ⟨a.block, a.off, by cases a; simp_all, cell_lt' h1, fun i r hi j x hj => ?_⟩
    have hi' : i < len := by
     have := (List.getElem?_eq_some_iff.1 hi).1
     simpa using this
    have hr : r = R i := by simpa [hi'] using hi.symm
    subst hr
    have := (hR i hi').2 j x hj
    rw [add_plain' hs, add_plain' rfl] at this
    exact this
   ·have hi' : i < len := by
     have := (List.getElem?_eq_some_iff.1 hr).1
     simpa using this
    have e1 : r = R i := by simpa [hi'] using hr.symm
    have e2 : A = L i := by simpa [hi'] using hA.symm
    subst e1 e2
    exact ⟨(hR i hi').1.1, hL i hi'⟩
  ·have h00 : len = 0 := by omega
   subst h00
   exact ⟨some a, cap, [], [], by simpa using hcs, by simp, rfl, (fun h => by simp at h), fun i r A h => by simp at h⟩
theorem read_Name {b0 : Nat} {v : Value} {d : DataW H} {p : List MemPlace} (hv : Value.okWide Tryz.prog w .any b0 27 v) (h : DataW.Trod enc Tryz.prog w 0 (fun _ => true) true 27 v d p) :
  ∃ (lang : ByteArray) (i : Int) (text : ByteArray), v = .agg #[.string lang, .int .i64 i, .string text] ∧ lang.size ≤ maxLen ∧ text.size ≤ maxLen := by
 obtain ⟨v0, v1, v2, y0, y1, y2, n, rfl, _, _, t0, t1, t2⟩ := open_agg3 Tryz.underlying27 (by kernel_rfl) (by kernel_rfl) hv h
 obtain ⟨s0, e0, _, z0⟩ := DataW.trod_string Tryz.underlying9 t0
 obtain ⟨n1, e1, _⟩ := DataW.trod_int Tryz.underlying3 t1
 obtain ⟨s2, e2, _, z2⟩ := DataW.trod_string Tryz.underlying9 t2
 simp only [List.cons.injEq, and_true] at e0 e1 e2
 subst e0 e1 e2
 exact ⟨s0, n1, s2, rfl, z0, z2⟩
theorem read_Brid {b0 : Nat} {v : Value} {d : DataW H} {p : List MemPlace} (hv : Value.okWide Tryz.prog w .any b0 25 v) (h : DataW.Trod enc Tryz.prog w 0 (fun _ => true) true 25 v d p) :
  ∃ b : Brid, BridAt w w.heap.size v b := by
 obtain ⟨v0, v1, y0, y1, n, rfl, _, _, t0, t1⟩ := open_agg2 Tryz.underlying25 (by kernel_rfl) (by kernel_rfl) hv h
 obtain ⟨a, c, l, rows, rfl, z0, z1, z2, z3⟩ := read_aggs (At := AlphAt w w.heap.size) Tryz.underlying22 cAlph (by decide) (fun h hl => read_alphC h hl) t0
 obtain ⟨a', c', l', rows', rfl, z0', z1', z2', z3'⟩ := read_aggs (At := RulsAt w w.heap.size) Tryz.underlying23 cRuls (by decide) (fun h hl => read_rulsC h hl) t1
 exact ⟨⟨l, l'⟩, a, c, a', c', rfl, z0, z0', ⟨rows, z1, z2, fun i r A hr hA => (z3 i r A hr hA).2⟩, ⟨rows', z1', z2', fun i r A hr hA => (z3' i r A hr hA).2⟩⟩
end
end Go.Proofs.YthachfkcgdfdfaaGreatDoor
