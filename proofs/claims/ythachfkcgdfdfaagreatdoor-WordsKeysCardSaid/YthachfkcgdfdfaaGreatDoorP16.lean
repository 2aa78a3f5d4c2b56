/- K9 -/
import Derived.Test.YthachfkcgdfdfaaGreatDoorP13
import Derived.Test.YthachfkcgdfdfaaGreatDoorP14
import Derived.Test.YthachfkcgdfdfaaGreatDoorShelf
import Derived.Deep.DeepCutAuto
import Derived.Deep.CutBlock
import Derived.Deep.RegionHeld3
/- Walk: machine.Runs: all results of a text. -/
namespace Go.Proofs.YthachfkcgdfdfaaGreatDoor
open Go.RowKit Classical

def RunsPost (M : Mach) (x : ByteArray) (w : World) (e : Ending) (w' : World) : Prop :=
 ∃ (v : Value) (ts : List ByteArray) (err : Int), e = .returned (.tuple #[v, .int .i64 err]) ∧ (∃ a cp, v = .slice a ts.length cp ∧ RowAt w' w'.heap.size a (strs ts)) ∧ Below w.heap.size w w' ∧ RunsOf M (bl x) ts err

/-- The same, where the row of results is a new one. -/
def RunsPostN (M : Mach) (x : ByteArray) (w : World) (e : Ending) (w' : World) : Prop :=
 ∃ (v : Value) (ts : List ByteArray) (err : Int), e = .returned (.tuple #[v, .int .i64 err]) ∧ w'.ownsRow w.heap.size 9 1 v ts.length (strs ts) ∧ Below w.heap.size w w' ∧ RunsOf M (bl x) ts err

/-- The places at which the loop stands. -/
structure PlcsAt (M : Mach) (x : ByteArray) (k : Nat) (b : Nat) (ks : List Plc) (w : World) : Prop where
 set : SetIs w b OkPlc (ks.map plcV)
 snd : ∀ p ∈ ks, Reach M ((bl x).take k) p
 cmp : ks.length ≤ 2000 → ∀ p, Reach M ((bl x).take k) p → p ∈ ks
 size : ∀ p ∈ ks, p.tx.size ≤ (k + 1) * 2002
 st : ∀ p ∈ ks, StateOk M.states p.st
theorem PlcsAt.nodup {M : Mach} {x : ByteArray} {k b : Nat} {ks : List Plc} {w : World} (h : PlcsAt M x k b ks w) : ks.Nodup :=
 (List.pairwise_map.1 (SetIs.nodup h.set)).imp (fun {a b} (hne : plcV a ≠ plcV b) (e : a = b) => hne (by rw [e]))

theorem runs_limit {M : Mach} {x : ByteArray} {k : Nat} (hv : ValidM M) (h4 : x.size ≤ 400) (hc : ¬ Circle M) (hk : k ≤ x.size) (hn : ¬ FewPl (Reach M ((bl x).take k))) : RunsOf M (bl x) [] 2 :=
 .inr ⟨⟨hv, by rw [bl_length]; exact h4⟩, .inr ⟨hc, .inl ⟨⟨k, by rw [bl_length]; exact hk, hn⟩, rfl, rfl⟩⟩⟩
theorem runs_zero {M : Mach} {x : ByteArray} {k : Nat} (hv : ValidM M) (h4 : x.size ≤ 400) (hc : ¬ Circle M) (hk : k < x.size) (hz : x[k] = 0) (hf : ∀ j, j ≤ k → FewPl (Reach M ((bl x).take j))) : RunsOf M (bl x) [] 0 := by
 have hg := bl_get x k hk
 rw [hz] at hg
 have h0 : 0 ∈ bl x := List.mem_of_getElem? hg
 refine .inr ⟨⟨hv, by rw [bl_length]; exact h4⟩, .inr ⟨hc, .inr ⟨fun i hi => ?_, rfl, ⟨by simp, by simp⟩, fun t => ?_⟩⟩⟩
 ·rcases Nat.lt_or_ge k i with h | h
  ·have h1 : 0 ∈ (bl x).take i := List.mem_of_getElem? (i := k) (by rw [List.getElem?_take, if_pos h]; exact hg)
   exact ⟨[], by simp, fun p hp => absurd hp (reach_zero M _ h1 p)⟩
  ·exact hf i h
 ·simp only [List.not_mem_nil, false_iff]
  rintro ⟨h1, _⟩
  exact h1 h0

theorem below_dn {B : Nat} {a w : World} (h : Below B a w) (n : Nat) : Below B a (w.drewN n) := h.trans ⟨rfl, rfl, rfl, Nat.le_refl _, fun _ _ => rfl⟩
theorem final_len {M : Mach} (hv : ValidM M) : M.final.length ≤ 4000 := by
 have h1 : M.final.Nodup := hv.inc.imp (fun h => Int.ne_of_lt h)
 have h2 := nodup_len (l := M.final) (m := (List.range 4000).map fun n : Nat => (n : Int)) h1 (fun z hz => by
  obtain ⟨a, b⟩ := hv.final z hz
  have := hv.most
  exact List.mem_map.2 ⟨z.toNat, List.mem_range.2 (by omega), by omega⟩)
 simpa using h2
theorem bs_any (l : List Int) (fa : Option Addr) (fc B : Nat) (z : Int) (hl : l.length ≤ 4000000000) (hi : l.Pairwise (· < ·)) (w : World) (h : RowAt w B fa (nums l)) :
  Calls Tryz.prog 104 #[.slice fa l.length fc, .int .i64 z] w fun e w' => ∃ i : Nat, e = .returned (.tuple #[.int .i64 i, .bool (decide (z ∈ l))]) ∧ Below w.heap.size w w' := by
 rcases Nat.eq_zero_or_pos l.length with h0 | h0
 ·have e : l = [] := List.eq_nil_of_length_eq_zero h0
  subst e
  refine (Tryz.slices_BinarySearch_int_empty fa fc z w).mono ?_
  rintro e w' ⟨rfl, hw⟩
  refine ⟨0, by simp, ?_⟩
  first | (subst hw; exact Below.refl _ _) | (obtain ⟨q, rfl⟩ := hw; exact below_dn (Below.refl _ _) _)
 ·obtain ⟨b, off, rfl, hb, hc⟩ := h.nums h0
  refine (Tryz.slices_BinarySearch_int b off l.length fc l z w (Nat.le_refl _) (by omega) (fun j hj => by rw [hc j hj]; simp [List.getD_eq_getElem?_getD, hj]) (by rw [List.take_length]; exact hi.imp (fun h => Int.le_of_lt h))).mono ?_
  rintro e w' ⟨rfl, q, rfl⟩
  have e : l.contains z = decide (z ∈ l) := by simp
  rw [List.take_length, e]
  exact ⟨_, rfl, below_dn (Below.refl _ _) _⟩

noncomputable def leftN (w : World) (b r : Nat) : Nat := match w.heap[b]?, w.heap[r]? with
 | some (.map es _), some (.mapIter _ _ seen _) => (leftOf es seen).size
 | _, _ => 0
theorem RangeIs.leftN {w : World} {b r : Nat} {Ok : Value → Prop} {l left : List (Value × Value)} (h : RangeIs w b r Ok l left) : leftN w b r = left.length := by
 obtain ⟨es, clock, since, seen, c0, h1, _, _, _, h2, _, _, _, rfl⟩ := h
 simp [Go.Proofs.YthachfkcgdfdfaaGreatDoor.leftN, h1, h2]
/-- The results so far. -/
structure ResAt (M : Mach) (ks rest : List Plc) (rs : List ByteArray) : Prop where
 sub : ∀ p ∈ rest, p ∈ ks
 snd : ∀ t ∈ rs, ∃ p ∈ ks, p.st ∈ M.final ∧ p.tx = t
 cmp : ∀ p ∈ ks, p ∈ rest ∨ (p.st ∈ M.final → p.tx ∈ rs)
 len : rs.length + rest.length ≤ ks.length
noncomputable def addS (rs : List ByteArray) (s : ByteArray) : List ByteArray := if s ∈ rs then rs else rs ++ [s]
theorem mem_addS {rs : List ByteArray} {s x : ByteArray} : x ∈ addS rs s ↔ x ∈ rs ∨ x = s := by
 unfold addS; split
 ·constructor
  ·exact .inl
  ·rintro (h | rfl); exact h; assumption
 ·simp
theorem ResAt.yes {M : Mach} {ks A B : List Plc} {rs : List ByteArray} {p : Plc} (h : ResAt M ks (A ++ p :: B) rs) (hf : p.st ∈ M.final) : ResAt M ks (A ++ B) (addS rs p.tx) := by
 refine ⟨fun q hq => h.sub q ?_, fun t ht => ?_, fun q hq => ?_, ?_⟩
 ·simp at hq ⊢; rcases hq with hq | hq <;> simp [hq]
 ·rcases mem_addS.1 ht with ht | rfl
  ·exact h.snd t ht
  ·exact ⟨p, h.sub p (by simp), hf, rfl⟩
 ·rcases h.cmp q hq with h1 | h1
  ·simp at h1
   rcases h1 with h1 | rfl | h1
   ·exact .inl (by simp [h1])
   ·exact .inr (fun _ => mem_addS.2 (.inr rfl))
   ·exact .inl (by simp [h1])
  ·exact .inr (fun h2 => mem_addS.2 (.inl (h1 h2)))
 ·have h1 := h.len
  have h2 : (addS rs p.tx).length ≤ rs.length + 1 := by unfold addS; split <;> simp
  simp at h1 ⊢; omega
theorem ResAt.no {M : Mach} {ks A B : List Plc} {rs : List ByteArray} {p : Plc} (h : ResAt M ks (A ++ p :: B) rs) (hf : p.st ∉ M.final) : ResAt M ks (A ++ B) rs := by
 refine ⟨fun q hq => h.sub q ?_, h.snd, fun q hq => ?_, ?_⟩
 ·simp at hq ⊢; rcases hq with hq | hq <;> simp [hq]
 ·rcases h.cmp q hq with h1 | h1
  ·simp at h1
   rcases h1 with h1 | rfl | h1
   ·exact .inl (by simp [h1])
   ·exact .inr (fun h2 => absurd h2 hf)
   ·exact .inl (by simp [h1])
  ·exact .inr h1
 ·have h1 := h.len
  simp at h1 ⊢; omega
theorem addS_set {w : World} {b : Nat} {rs : List ByteArray} {s : ByteArray} (h : SetIs w b OkStr (addV (rs.map Value.string) (.string s))) : SetIs w b OkStr ((addS rs s).map Value.string) := by
 have hm : Value.string s ∈ rs.map Value.string ↔ s ∈ rs := by
  rw [List.mem_map]
  exact ⟨fun ⟨y, hy, e⟩ => (show y = s by simpa using e) ▸ hy, fun h => ⟨s, h, rfl⟩⟩
 unfold addV at h
 unfold addS
 by_cases hx : s ∈ rs
 ·rw [if_pos (hm.2 hx)] at h; rw [if_pos hx]; exact h
 ·rw [if_neg (fun h => hx (hm.1 h))] at h; rw [if_neg hx, List.map_append]; exact h
/-- The last words. -/
theorem runs_done {M : Mach} {x : ByteArray} {ks : List Plc} {rs ts : List ByteArray} (hv : ValidM M) (h4 : x.size ≤ 400) (hc : ¬ Circle M) (hl : ks.length ≤ 2000) (hf : ∀ j, j < x.size → FewPl (Reach M ((bl x).take j))) (h0 : 0 ∉ bl x)
  (hs : ∀ p ∈ ks, Reach M ((bl x).take x.size) p) (hm : ∀ p, Reach M ((bl x).take x.size) p → p ∈ ks) (hr : ResAt M ks [] rs) (hso : SortedB ts) (hts : ∀ t, t ∈ ts ↔ t ∈ rs) : RunsOf M (bl x) ts 0 := by
 have ht : (bl x).take x.size = bl x := List.take_of_length_le (by rw [bl_length]; exact Nat.le_refl _)
 refine .inr ⟨⟨hv, by rw [bl_length]; exact h4⟩, .inr ⟨hc, .inr ⟨fun i hi => ?_, rfl, hso, fun t => ?_⟩⟩⟩
 ·rw [bl_length] at hi
  rcases Nat.lt_or_ge i x.size with h | h
  ·exact hf i h
  ·obtain rfl : i = x.size := by omega
   exact few_of hl hm
 ·rw [hts t]
  rw [ht] at hs hm
  constructor
  ·intro h
   obtain ⟨p, hp, h1, rfl⟩ := hr.snd t h
   exact ⟨h0, p.st, h1, hs p hp⟩
  ·rintro ⟨_, s, h1, h2⟩
   rcases hr.cmp _ (hm _ h2) with h3 | h3
   ·cases h3
   ·exact h3 h1

/-- The first step. -/
theorem step_first (M : Mach) (hv : ValidM M) (v : Value) (bf : Nat) (w : World) (h : MachAt w w.heap.size v M) (hs : SetIs w bf OkPlc ([(⟨M.start, ⟨#[]⟩⟩ : Plc)].map plcV)) (x : ByteArray) :
  Calls Tryz.prog 103 #[v, .map (some bf), .int .i64 0] w fun e w' => ∃ (b : Nat) (ks : List Plc), e = .returned (.tuple #[.map (some b), .bool (decide (ks.length ≤ 2000))]) ∧ PlcsAt M x 0 b ks w' ∧ Below w.heap.size w w' := by
 have hz : ∀ p ∈ [(⟨M.start, ⟨#[]⟩⟩ : Plc)], p.tx.size ≤ 0 := fun p hp => by rw [List.mem_singleton.1 hp]; exact Nat.le_refl _
 have hst : ∀ p ∈ [(⟨M.start, ⟨#[]⟩⟩ : Plc)], StateOk M.states p.st := fun p hp => by rw [List.mem_singleton.1 hp]; exact hv.start
 refine (step_any M hv v [⟨M.start, ⟨#[]⟩⟩] bf 0 0 w h hs (by omega) (by omega) (by omega) hz hst (by simp)).mono ?_
 rintro e w' ⟨b, ks, rfl, h1, _, h3, h4, h5, h6, h7⟩
 have hiff : ∀ p, StepM M (· ∈ [(⟨M.start, ⟨#[]⟩⟩ : Plc)]) 0 p ↔ Reach M [] p := fun p => by
  rw [Reach_nil]
  unfold StepM
  constructor
  ·exact Cl.imp (fun q hq => by unfold Setout at hq; rw [if_pos rfl] at hq; simpa using hq)
  ·exact Cl.imp (fun q hq => by unfold Setout; rw [if_pos rfl]; simpa using hq)
 exact ⟨b, ks, rfl, ⟨h1, fun p hp => by rw [List.take_zero]; exact (hiff p).1 (h4 p hp), fun hl p hp => h5 hl p ((hiff p).2 (by rw [List.take_zero] at hp; exact hp)), fun p hp => Nat.le_trans (h6 p hp) (by decide), h7⟩, h3⟩
/-- A step on. -/
theorem step_more (M : Mach) (hv : ValidM M) (v : Value) (bf k : Nat) (ks0 : List Plc) (x : ByteArray) (hx4 : x.size ≤ 400) (hk : k < x.size) (hk0 : x[k] ≠ 0) (hfew : ks0.length ≤ 2000) (w : World) (h : MachAt w w.heap.size v M) (hs : PlcsAt M x k bf ks0 w) :
  Calls Tryz.prog 103 #[v, .map (some bf), .int .i64 (x[k].toNat : Int)] w fun e w' => ∃ (b : Nat) (ks : List Plc), e = .returned (.tuple #[.map (some b), .bool (decide (ks.length ≤ 2000))]) ∧ PlcsAt M x (k + 1) b ks w' ∧ Below w.heap.size w w' := by
 have hlt : x[k].toNat < 256 := x[k].toNat_lt
 refine (step_any M hv v ks0 bf (x[k].toNat : Int) ((k + 1) * 2002) w h hs.set (by omega) (by omega) (by omega) hs.size hs.st hfew).mono ?_
 rintro e w' ⟨b, ks, rfl, h1, _, h3, h4, h5, h6, h7⟩
 have htk : (bl x).take (k + 1) = (bl x).take k ++ [x[k]] := by rw [List.take_add_one, bl_get x k hk]; rfl
 have hc0 : ((x[k].toNat : Nat) : Int) ≠ 0 := fun e => hk0 (UInt8.toNat_inj.1 (by simpa using e))
 have hiff : ∀ p, StepM M (· ∈ ks0) (x[k].toNat : Int) p ↔ Reach M ((bl x).take (k + 1)) p := fun p => by
  rw [htk, Reach_snoc M _ _ hk0]
  unfold StepM
  constructor
  ·exact Cl.imp (fun q hq => by
    unfold Setout at hq ⊢; rw [if_neg hc0] at hq ⊢
    obtain ⟨q', h1, h2⟩ := hq
    exact ⟨q', hs.snd q' h1, h2⟩)
  ·exact Cl.imp (fun q hq => by
    unfold Setout at hq ⊢; rw [if_neg hc0] at hq ⊢
    obtain ⟨q', h1, h2⟩ := hq
    exact ⟨q', hs.cmp hfew q' h1, h2⟩)
 exact ⟨b, ks, rfl, ⟨h1, fun p hp => (hiff p).1 (h4 p hp), fun hl p hp => h5 hl p ((hiff p).2 hp), fun p hp => Nat.le_trans (h6 p hp) (Nat.le_of_eq (Nat.succ_mul (k + 1) 2002).symm), h7⟩, h3⟩

set_option maxRecDepth 100000 in
set_option maxHeartbeats 8000000 in
theorem Runs_new (M : Mach) (v : Value) (x : ByteArray) (hx : x.size ≤ maxLen) (w : World) (h : MachAt w w.heap.size v M) :
  Calls Tryz.prog 59 #[v, .string x] w (RunsPostN M x w) := by
 have hx2 := hx
 unfold maxLen at hx
 have hMA := h
 obtain ⟨fa, fc, aa, ac, rfl, hfl, hal, hf, ha⟩ := h
 obtain ⟨W0, hW0⟩ : ∃ W0 : World, W0 = w.alloc (.cells #[.int .i64 M.states, .int .i64 M.start, .slice fa M.final.length fc, .slice aa M.arcs.length ac] 96) := ⟨_, rfl⟩
 have hw0 : Below w.heap.size w W0 := by rw [hW0]; exact (Below.refl _ _).alloc (Nat.le_refl _) _
 have hB0 : Blk W0 w.heap.size #[.int .i64 M.states, .int .i64 M.start, .slice fa M.final.length fc, .slice aa M.arcs.length ac] 96 := by rw [hW0]; exact Blk.new _ _ _
 have hlt0 := hB0.lt
 have HM := Lib.hid (fun (wr : World) (hbw : Below W0.heap.size W0 wr) => (show wr.cell? ⟨w.heap.size, 0, none⟩ = some (.int .i64 M.states) ∧ wr.cell? ⟨w.heap.size, 1, none⟩ = some (.int .i64 M.start) ∧ wr.cell? ⟨w.heap.size, 2, none⟩ = some (.slice fa M.final.length fc) ∧ wr.cell? ⟨w.heap.size, 3, none⟩ = some (.slice aa M.arcs.length ac) from
  ⟨(hB0.below hbw hlt0).cell 0, (hB0.below hbw hlt0).cell 1, (hB0.below hbw hlt0).cell 2, (hB0.below hbw hlt0).cell 3⟩))
 have HA := Lib.hid (fun (wr : World) (hbw : Below W0.heap.size W0 wr) => (show MachAt wr wr.heap.size (.agg #[.int .i64 M.states, .int .i64 M.start, .slice fa M.final.length fc, .slice aa M.arcs.length ac]) M from
  have h1 := hw0.trans (hbw.mono hw0.size); (hMA.below h1 (Nat.le_refl _)).more h1.size))
 have HW0 := Lib.hid (And.intro hW0 hw0)
 obtain ⟨m0, m1, m2, m3⟩ := HM.out W0 (Below.refl _ _)
 clear hW0 hw0 hB0 hf ha hMA
 go_enter Tryz.func59, Tryz.ntmps59
 go_upto_region 1 with (fail)
 rw [← HW0.out.1]
 have hQ1 := MValid_any M _ W0 (HA.out W0 (Below.refl _ _))
 have harg : ∀ (wr : World), Below w.heap.size w wr → ¬ (ValidM M ∧ x.size ≤ 400) → RunsPostN M x w (.returned (.tuple #[.slice none 0 0, .int .i64 1])) wr := fun wr hb hn =>
  ⟨_, [], 1, rfl, World.ownsRow_nil _ _ _ _, hb, .inl ⟨by rw [bl_length]; exact hn, rfl, rfl⟩⟩
 have HQ1 := Lib.hid (And.intro hQ1 harg)
 clear hQ1 harg
 by_cases hv : ValidM M
 ·have HQ2 := Lib.hid (show Calls Tryz.prog 101 _ W0 (fun e w' => e = .returned (.bool true) ∧ Below W0.heap.size W0 w') from by have := HQ1.out.1; rwa [decide_eq_true hv] at this)
  have Hv := Lib.hid hv
  clear hv
  by_cases h4 : x.size ≤ 400
  ·have d4 : decide ((400 : Int) < (x.size : Int)) = false := decide_eq_false (by omega)
   go_upto_region 3 with (go_at_call 101; refine HQ2.out.mono ?_; rintro e w1 ⟨rfl, hb1⟩)
   have hbW1 := HW0.out.2.trans (hb1.mono HW0.out.2.size)
   clear m0 m1 m2 m3 d4
   obtain ⟨m0, m1, m2, m3⟩ := HM.out w1 hb1
   have hQ3 := silent_any M Hv.out _ w1 (HA.out w1 hb1)
   by_cases hcir : Circle M
   ·rw [decide_eq_true hcir] at hQ3
    have HQ3 := Lib.hid hQ3
    have Hcir := Lib.hid hcir
    clear hQ3 hcir
    go_wp2_with (go_at_call 102; refine HQ3.out.mono ?_; rintro e w2 ⟨rfl, hb2⟩)
    have hbF := hbW1.trans (hb2.mono hbW1.size)
    go_ret2
    exact ⟨_, [], 12, rfl, World.ownsRow_nil _ _ _ _, hbF, .inr ⟨⟨Hv.out, by rw [bl_length]; exact h4⟩, .inl ⟨Hcir.out, rfl, rfl⟩⟩⟩
   ·rw [decide_eq_false hcir] at hQ3
    have HQ3 := Lib.hid hQ3
    have Hcir := Lib.hid hcir
    clear hQ3 hcir
    go_upto_region 5 with (go_at_call 102; refine HQ3.out.mono ?_; rintro e w2 ⟨rfl, hb2⟩)
    have hb02 := hb1.trans (hb2.mono hb1.size)
    have hbW2 := hbW1.trans (hb2.mono hbW1.size)
    clear m0 m1 m2 m3 HQ1 HQ2 HQ3
    obtain ⟨m0, m1, m2, m3⟩ := HM.out w2 hb02
    have hmb : w.heap.size < w2.heap.size := lt_of_cell m0
    obtain ⟨W4, hW4⟩ : ∃ W4 : World, W4 = (w2.alloc (.map #[] 0)).drew := ⟨_, rfl⟩
    have hS0 : SetIs W4 w2.heap.size OkPlc (([] : List Plc).map plcV) := by rw [hW4]; exact MapIs.drew (SetIs.made w2 OkPlc)
    obtain ⟨w5, hrun, hs5, hg5, hz5⟩ := SetIs.put hS0 keyPlc Tryz.underlying161 (key := plcV ⟨M.start, ⟨#[]⟩⟩) ⟨_, rfl⟩
    have hb45 : Below w2.heap.size w2 w5 := by
     have h1 : Below w2.heap.size w2 W4 := by rw [hW4]; exact ((Below.refl _ _).alloc (Nat.le_refl _) _).drew
     exact h1.grown hg5 h1.size (fun j hj => by cases hj; exact Nat.le_refl _)
    have hb05 := hb02.trans (hb45.mono hb02.size)
    obtain ⟨y0, y1, y2, y3⟩ := HM.out w5 hb05
    have hn0 := World.new_ne w2 ⟨w.heap.size, 0, none⟩ m0
    have hn1 := World.new_ne w2 ⟨w.heap.size, 1, none⟩ m1
    have hn2 := World.new_ne w2 ⟨w.heap.size, 2, none⟩ m2
    have hn3 := World.new_ne w2 ⟨w.heap.size, 3, none⟩ m3
    have hQ5 := step_first M Hv.out _ w2.heap.size w5 (HA.out w5 hb05) (by
     have := hs5; rw [addV, if_neg (by simp)] at this; exact this) x
    have HQ5 := Lib.hid hQ5
    have hrun2 : (Instr.mapUpdate 161 (.map (some w2.heap.size)) (.agg #[.int .i64 M.start, .string ⟨#[]⟩]) (.bool true)).run Tryz.prog ((w2.alloc (.map #[] 0)).drew) = .ok () w5 := by rw [← hW4]; exact hrun
    have hmm := @run_makeMap Tryz.prog
    have H5 := Lib.hid hb45
    clear hS0 hrun hs5 hg5 hz5 hb45 hQ5 hW4
    go_cut [6, 7] (fun p q wx => ∃ (b : Nat) (ks : List Plc), p = .map (some b) ∧ q = .bool (decide (ks.length ≤ 2000)) ∧ PlcsAt M x 0 b ks wx ∧ Below w2.heap.size w2 wx)
    case first =>
     go_region_held3 (fun w' => w'.cell? ⟨w.heap.size, 0, none⟩ = some (.int .i64 M.states) ∧ w'.cell? ⟨w.heap.size, 1, none⟩ = some (.int .i64 M.start) ∧ w'.cell? ⟨w.heap.size, 2, none⟩ = some (.slice fa M.final.length fc) ∧ w'.cell? ⟨w.heap.size, 3, none⟩ = some (.slice aa M.arcs.length ac))
      (first | exact ⟨m0, m1, m2, m3⟩ | exact ⟨y0, y1, y2, y3⟩ | exact ⟨z0, z1, z2, z3⟩ | go_keep)
      (first | (go_at_call 103; refine HQ5.out.mono ?_; rintro e w6 ⟨b6, ks6, rfl, hp6, hb6⟩; have hb06 := hb05.trans (hb6.mono hb05.size); obtain ⟨z0, z1, z2, z3⟩ := HM.out w6 hb06))
     all_goals go_wp2_with fail
     all_goals go_meet
     all_goals exact ⟨b6, ks6, rfl, rfl, hp6, H5.out.trans (hb6.mono H5.out.size)⟩
    case rest =>
     obtain ⟨b, ks, rfl, rfl, hp, hbc⟩ := hcut
     go_wp2_with fail
     clear hn0 hn1 hn2 hn3 m0 m1 m2 m3 hrun2 hmm y0 y1 y2 y3
     go_loopw [6, 7, 8] (fun p q i wr => ∃ (k b : Nat) (ks : List Plc), p = .map (some b) ∧ q = .bool (decide (ks.length ≤ 2000)) ∧ i = .int .i64 k ∧ k ≤ x.size ∧ PlcsAt M x k b ks wr ∧ (∀ j, j < k → FewPl (Reach M ((bl x).take j)) ∧ (bl x)[j]? ≠ some 0) ∧ Below w2.heap.size w2 wr) (fun _ _ i _ => x.size - (intOf i).toNat)
     case atStart => exact ⟨0, b, ks, rfl, rfl, rfl, Nat.zero_le _, hp, fun j hj => absurd hj (Nat.not_lt_zero _), hbc⟩
     case round =>
      clear hp hbc b ks
      obtain ⟨k, b, ks, rfl, rfl, rfl, hkx, hp, hfw, hbr⟩ := hrel
      have hb0r := hb02.trans (hbr.mono hb02.size)
      have hbWr := hbW2.trans (hbr.mono hbW2.size)
      obtain ⟨m0, m1, m2, m3⟩ := HM.out wr hb0r
      have HP := Lib.hid (And.intro hp hfw)
      clear hp hfw
      by_cases hl : ks.length ≤ 2000
      ·have d1 : decide (ks.length ≤ 2000) = true := decide_eq_true hl
       rw [d1]
       have Hl := Lib.hid hl
       clear hl
       by_cases hk : k < x.size
       ·have hkI : decide ((k : Int) < (x.size : Int)) = true := decide_eq_true (by omega)
        by_cases hz : x[k] = 0
        ·have dz : ((x[k].toNat : Int) == 0) = true := by rw [hz]; rfl
         have Hz := Lib.hid hz
         clear hz
         go_wp2_with fail
         go_ret2
         exact ⟨_, [], 0, rfl, World.ownsRow_nil _ _ _ _, hbWr, runs_zero Hv.out h4 Hcir.out hk Hz.out (fun j hj => by
          rcases Nat.lt_succ_iff_lt_or_eq.1 (Nat.lt_succ_of_le hj) with hj | rfl
          ·exact (HP.out.2 j hj).1
          ·exact few_of Hl.out (HP.out.1.cmp Hl.out))⟩
        ·have dz : ((x[k].toNat : Int) == 0) = false := by
          rw [beq_eq_false_iff_ne]; exact fun e => hz (UInt8.toNat_inj.1 (by simpa using e))
         have HQ := Lib.hid (step_more M Hv.out _ b k ks x h4 hk hz Hl.out wr.drew (HA.out _ hb0r.drew) ⟨MapIs.drew HP.out.1.set, HP.out.1.snd, HP.out.1.cmp, HP.out.1.size, HP.out.1.st⟩)
         have Hz := Lib.hid hz
         clear hz
         have hwr : IntKind.i64.wrap ((x[k].toNat : Nat) : Int) = (x[k].toNat : Int) := IntWalk.i64_in _ (by have := x[k].toNat_lt; omega)
         go_upto_region 11 with (fail)
         go_region_held3 (fun w' => w'.cell? ⟨w.heap.size, 0, none⟩ = some (.int .i64 M.states) ∧ w'.cell? ⟨w.heap.size, 1, none⟩ = some (.int .i64 M.start) ∧ w'.cell? ⟨w.heap.size, 2, none⟩ = some (.slice fa M.final.length fc) ∧ w'.cell? ⟨w.heap.size, 3, none⟩ = some (.slice aa M.arcs.length ac))
          (first | exact ⟨m0, m1, m2, m3⟩ | exact ⟨z0, z1, z2, z3⟩ | go_keep)
          (first | (go_at_call 103; refine HQ.out.mono ?_; rintro e w6 ⟨b6, ks6, rfl, hp6, hb6⟩; have hb06 := hb0r.drew.trans (hb6.mono hb0r.size); obtain ⟨z0, z1, z2, z3⟩ := HM.out w6 hb06; have Hp6 := Lib.hid hp6; clear hp6))
         have hb26 : Below w2.heap.size w2 w6 := hbr.drew.trans (hb6.mono hbr.size)
         clear m0 m1 m2 m3 z0 z1 z2 z3 hb6
         go_wp2_with fail
         refine ⟨⟨k + 1, b6, ks6, rfl, rfl, by go_num, hk, Hp6.out, fun j hj => ?_, hb26⟩, by simp [intOf]; omega⟩
         rcases Nat.lt_succ_iff_lt_or_eq.1 hj with hj | rfl
         ·exact HP.out.2 j hj
         ·exact ⟨few_of Hl.out (HP.out.1.cmp Hl.out), fun e => Hz.out (by rw [bl_get x _ hk] at e; exact Option.some.inj e)⟩
       ·obtain rfl : k = x.size := by omega
        have hkI : decide ((x.size : Int) < (x.size : Int)) = false := decide_eq_false (by omega)
        have hmm := @run_makeMap Tryz.prog
        go_upto_region 15 with (fail)
        clear hmm
        have Hcut := Lib.hid (show ∀ j, j < x.size → FewPl (Reach M ((bl x).take j)) from fun j hj => (HP.out.2 j hj).1)
        by_cases hz0 : 0 ∈ bl x
        ·exact absurd hz0 (fun h => by
          obtain ⟨j, hj⟩ := List.mem_iff_getElem?.1 h
          have hjl : j < x.size := by have := (List.getElem?_eq_some_iff.1 hj).1; rwa [bl_length] at this
          exact (HP.out.2 j hjl).2 hj)
        ·have Hz0 := Lib.hid hz0
         clear hz0
         obtain ⟨rm, hrm⟩ : ∃ rm, wr.heap.size = rm := ⟨_, rfl⟩
         obtain ⟨W6, hW6⟩ : ∃ W6 : World, W6 = wr.alloc (.map #[] 0) := ⟨_, rfl⟩
         rw [← hW6, hrm]
         have hc6 : Below rm wr W6 := by rw [hW6, ← hrm]; exact (Below.refl _ _).alloc (Nat.le_refl _) _
         have hrs6 : SetIs W6 rm OkStr (([] : List ByteArray).map Value.string) := by rw [hW6, ← hrm]; exact SetIs.made wr OkStr
         have hbks := MapIs.lt HP.out.1.set
         have hks6 : SetIs W6 b OkPlc (ks.map plcV) := MapIs.below HP.out.1.set hc6 (by omega)
         obtain ⟨ro, hrng, hR⟩ := MapIs.range (P := Tryz.prog) hks6 Tryz.underlying161
         have hpairs : (ks.map plcV).map (fun v => (v, Value.bool true)) = ks.map plcP := by rw [List.map_map]; rfl
         rw [hpairs] at hR
         have hsz6 : W6.heap.size = rm + 1 := by rw [hW6, ← hrm]; simp
         have HR := Lib.hid (And.intro hR (And.intro hrs6 hc6))
         have Hsz6 := Lib.hid hsz6
         clear hW6 hR hrs6 hc6 hks6 hpairs hsz6
         go_wp2_with fail
         clear hrng
         obtain ⟨ri, hri⟩ : ∃ ri, W6.heap.size = ri := ⟨_, rfl⟩
         obtain ⟨W7, hW7⟩ : ∃ W7 : World, W7 = W6.alloc ro := ⟨_, rfl⟩
         rw [← hW7, hri]
         have hc7 : Below ri W6 W7 := by rw [hW7, ← hri]; exact (Below.refl _ _).alloc (Nat.le_refl _) _
         have hR7 := HR.out.1
         rw [← hW7, hri] at hR7
         have hrs7 : SetIs W7 rm OkStr (([] : List ByteArray).map Value.string) := MapIs.below HR.out.2.1 hc7 (by have := Hsz6.out; omega)
         have hb7 : Below rm wr W7 := HR.out.2.2.trans (hc7.mono (by have := Hsz6.out; omega))
         have hsz6 := Hsz6.out
         have hri1 : ri ≤ rm + 1 := by omega
         have hri2 : rm + 1 ≤ ri := by omega
         have hrm1 : wr.heap.size ≤ rm := by omega
         have hrm2 : rm ≤ wr.heap.size := by omega
         clear hW7 hc7 hri hsz6 HR hrm Hsz6
         obtain ⟨wo, rfl⟩ : ∃ wo : World, wo = wr := ⟨_, rfl⟩
         go_loopw [] (fun wx => ∃ (rest : List Plc) (rs : List ByteArray), RangeIs wx b ri OkPlc (ks.map plcP) (rest.map plcP) ∧ SetIs wx rm OkStr (rs.map Value.string) ∧ ResAt M ks rest rs ∧ Below rm wo wx) (fun wx => leftN wx b ri)
         case atStart => exact ⟨ks, [], hR7, hrs7, ⟨fun _ h => h, by simp, fun p hp => .inl hp, by simp⟩, hb7⟩
         case round =>
          clear hR7 hrs7 hb7
          obtain ⟨rest, rs, hrg, hrs, hres, hbx⟩ := hrel
          have Hrg := Lib.hid hrg
          have Hrs := Lib.hid hrs
          have Hres := Lib.hid hres
          have hszx := hbx.size
          clear hrg hrs hres
          rcases RangeIs.next (P := Tryz.prog) Hrg.out 0 with ⟨hl, hrun⟩ | ⟨A', pr, B', w', hl, hrun, hrg', hg', hs', hent⟩
          ·have hnx : ∀ ty, (Instr.next (.pointer (some ⟨ri, 0, none⟩)) false ty).run Tryz.prog wr = .ok (.tuple #[.bool false]) wr := fun _ => hrun
           have hz : rest = [] := List.map_eq_nil_iff.1 hl
           have Hz := Lib.hid hz
           clear hl hz hrun
           go_wp2_with fail
           have hrl : rs.length ≤ 2000 := by have h1 := Hres.out.len; have h2 := Hl.out; omega
           have hrz : ∀ s ∈ rs, s.size ≤ maxLen := fun s hs => by
            obtain ⟨p, hp, _, rfl⟩ := Hres.out.snd s hs
            have h1 := HP.out.1.size p hp
            have h2 : (x.size + 1) * 2002 ≤ 401 * 2002 := Nat.mul_le_mul_right _ (by omega)
            unfold maxLen; omega
           obtain ⟨D0, hown, hperm, hDs⟩ := owns_strs Tryz.underlying9 Hrs.out hrz (by unfold maxLen; omega)
           have Hperm := Lib.hid hperm
           have hq := (callsIn_wide (n := 5)).1 (Tryz.slices_Sorted_keys_105_106 rm rs.length D0 _ wr hown (by rw [hDs]; unfold maxLen; omega) (by rw [hDs]; omega))
           have HQ := Lib.hid hq
           clear hq hown hperm hDs hrz
           refine ((callsIn_wide (n := 5)).1 (Tryz.maps_Keys_106 (some rm) wr)).mono ?_
           rintro e w3 ⟨rfl, rfl⟩
           have hb4' : Below wr.heap.size wr (wr.alloc (.cells #[.map (some rm)] 166)) := (Below.refl _ _).alloc (Nat.le_refl _) _
           have Hb4 := Lib.hid hb4'
           clear hb4'
           go_wp2_with fail
           refine HQ.out.mono ?_
           rintro e w4 ⟨v4, ss, rfl, hss, hown4, _, hb4⟩
           obtain ⟨a4, c4, rfl, hl4, -⟩ := RowAt.of_own hown4
           have H4 := Lib.hid (And.intro hss (And.intro hown4 hb4))
           clear hss hb4 hown4 hl4
           go_wp2_with fail
           go_ret2
           obtain ⟨hss, hrow4, hb4⟩ := H4.out
           obtain ⟨ts, hts⟩ : ∃ ts : List ByteArray, ts = (ss.mergeSort (fun x y => decide (x ≤ y))).map (fun l => (⟨l.toArray⟩ : ByteArray)) := ⟨_, rfl⟩
           have htb : ts.map bl = ss.mergeSort (fun x y => decide (x ≤ y)) := by
            rw [hts, List.map_map]
            conv => rhs; rw [← List.map_id (ss.mergeSort (fun x y => decide (x ≤ y)))]
            exact List.map_congr_left (fun l _ => by simp [bl])
           have hte : strs ts = (ss.mergeSort (fun x y => decide (x ≤ y))).map encStr := by
            rw [hts, strs, List.map_map]
            exact List.map_congr_left (fun l _ => rfl)
           have htl : ts.length = ss.length := by rw [hts, List.length_map, List.length_mergeSort]
           have hnd : (rs.map bl).Nodup := by
            have h1 := SetIs.nodup Hrs.out
            exact List.pairwise_map.2 ((List.pairwise_map.1 h1).imp (fun {a b} (hne : Value.string a ≠ Value.string b) (e : bl a = bl b) => hne (congrArg Value.string (bl_inj e))))
           have hw1 := hbWr.size
           have hbF : Below w.heap.size w w4 := ((hbWr.trans (hbx.mono (by omega))).trans (Hb4.out.mono (by omega))).trans (hb4.mono (by simp; omega))
           refine ⟨.slice a4 ts.length c4, ts, 0, by rw [htl]; rfl, by rw [hte, htl]; exact own_base hrow4 (by have := hbx.size; simp; omega), hbF, runs_done Hv.out h4 Hcir.out Hl.out Hcut.out Hz0.out HP.out.1.snd (HP.out.1.cmp Hl.out) (by have := Hres.out; rw [Hz.out] at this; exact this) ⟨?_, ?_⟩ (fun t => ?_)⟩
           ·rw [htb]
            have := List.pairwise_mergeSort (le := fun x y : List UInt8 => decide (x ≤ y)) (fun a b c h1 h2 => by simp only [decide_eq_true_eq] at *; exact List.le_trans h1 h2) (fun a b => by simp only [Bool.or_eq_true, decide_eq_true_eq]; exact List.le_total a b) ss
            exact this.imp (fun h => by simpa using h)
           ·rw [htb]
            exact ((List.mergeSort_perm _ _).trans (hss.trans Hperm.out)).nodup_iff.2 hnd
           ·have h1 : bl t ∈ ts.map bl ↔ bl t ∈ rs.map bl := by
             rw [htb]; exact ((List.mergeSort_perm _ _).trans (hss.trans Hperm.out)).mem_iff
            rw [List.mem_map, List.mem_map] at h1
            constructor
            ·intro h
             obtain ⟨s, hs, e⟩ := h1.1 ⟨t, h, rfl⟩
             rw [← bl_inj e]; exact hs
            ·intro h
             obtain ⟨s, hs, e⟩ := h1.2 ⟨t, h, rfl⟩
             rw [← bl_inj e]; exact hs
          ·obtain ⟨ra, p, rb, hrs, rfl, rfl, rfl⟩ := split_plc hl
           have hnx : ∀ ty, (Instr.next (.pointer (some ⟨ri, 0, none⟩)) false ty).run Tryz.prog wr = .ok (.tuple #[.bool true, .agg #[.int .i64 p.st, .string p.tx], .bool true]) w' := fun _ => hrun
           have hent' : (Instr.entry (.pointer (some ⟨ri, 0, none⟩))).run Tryz.prog w' = .ok (.tuple #[.agg #[.int .i64 p.st, .string p.tx], .bool true]) w' := hent
           have Hzs := Lib.hid hrs
           have Hrg' := Lib.hid hrg'
           have Hg' := Lib.hid hg'
           have Hs' := Lib.hid hs'
           clear hl hent hrs hrg' hg' hrun hs'
           go_upto_region 18 with (fail)
           obtain ⟨W8, hW8⟩ : ∃ W8 : World, W8 = w'.alloc (.cells #[.int .i64 p.st, .string p.tx] 165) := ⟨_, rfl⟩
           rw [← hW8]
           obtain ⟨pb, hpb⟩ : ∃ pb, w'.heap.size = pb := ⟨_, rfl⟩
           rw [hpb]
           have hpk : Blk W8 pb #[.int .i64 p.st, .string p.tx] 165 := by rw [hW8, ← hpb]; exact Blk.new _ _ _
           have hb8 : Below pb w' W8 := by rw [hW8, ← hpb]; exact (Below.refl _ _).alloc (Nat.le_refl _) _
           have hs'' := Hs'.out
           have hb8o : Below rm wo W8 := (hbx.grown Hg'.out (by omega) (fun j hj => by cases hj; omega)).trans (hb8.mono (by omega))
           have hb8r : Below W0.heap.size W0 W8 := hb0r.trans (hb8o.mono (by have := hb0r.size; omega))
           have hrg8 := RangeIs.below Hrg'.out hb8 (by have := MapIs.lt (RangeIs.isMap Hrg'.out); omega) (by have := RangeIs.lt Hrg'.out; omega)
           have hrmri : rm ≠ ri := by omega
           have hrs8 : SetIs W8 rm OkStr (rs.map Value.string) := MapIs.below (MapIs.grown Hrs.out Hg'.out (fun e => hrmri (by injection e))) hb8 (by have := MapIs.lt Hrs.out; omega)
           obtain ⟨m0, m1, m2, m3⟩ := HM.out W8 hb8r
           have x0 := hpk.cell 0
           have x1 := hpk.cell 1
           simp only [List.getElem?_toArray, List.getElem?_cons_zero, List.getElem?_cons_succ] at x0 x1
           obtain ⟨_, _, _, _, hme, hfl0, _, hrf, _⟩ := HA.out W8 hb8r
           injection hme with hme
           simp only [Array.mk.injEq, List.cons.injEq, Value.slice.injEq, true_and, and_true] at hme
           obtain ⟨⟨rfl, rfl⟩, rfl, rfl⟩ := hme
           have hQ := bs_any M.final fa fc _ p.st (by have := final_len Hv.out; omega) Hv.out.inc W8 hrf
           have H8 := Lib.hid (And.intro hrg8 (And.intro hrs8 (And.intro hpk hb8o)))
           clear hW8 hpb hb8 hs'' hrg8 hrs8 hpk hb8o hb8r hrf hfl0 m0 m1 m3 hnx hent'
           by_cases hfin : p.st ∈ M.final
           ·rw [decide_eq_true hfin] at hQ
            have HQ := Lib.hid hQ
            have Hfin := Lib.hid hfin
            clear hQ hfin
            go_upto_region 20 with (go_at_call 104; refine HQ.out.mono ?_; rintro e w9 ⟨i9, rfl, hb9⟩)
            obtain ⟨hrg8, hrs8, hpk, hb8o⟩ := H8.out
            have hrs9 := MapIs.below hrs8 hb9 (MapIs.lt hrs8)
            have hrg9 := RangeIs.below hrg8 hb9 (MapIs.lt (RangeIs.isMap hrg8)) (RangeIs.lt hrg8)
            obtain ⟨w10, hrun10, hs10, hg10, hz10⟩ := SetIs.put hrs9 keyStr Tryz.underlying166 (key := .string p.tx) (okStr _)
            have x1' := (hpk.below hb9 hpk.lt).cell 1
            simp only [List.getElem?_toArray, List.getElem?_cons_zero, List.getElem?_cons_succ] at x1'
            have hrmb : rm ≠ b := by omega
            have hrg10 := RangeIs.grown hrg9 hg10 (fun e => hrmb (by injection e with e; exact e.symm)) (fun e => hrmri (by injection e with e; exact e.symm))
            have hs8o := hb8o.size
            have hb10 : Below rm wo w10 := (hb8o.trans (hb9.mono (by omega))).grown hg10 (by have := hb9.size; omega) (fun j hj => by cases hj; exact Nat.le_refl _)
            have H10 := Lib.hid (And.intro hrg10 (And.intro (addS_set hs10) hb10))
            clear hrg8 hrs8 hpk hb8o hrs9 hrg9 hs10 hg10 hrg10 hb10 x0 x1 m2
            go_wp2_with fail
            refine ⟨⟨ra ++ rb, addS rs p.tx, by rw [List.map_append]; exact H10.out.1, H10.out.2.1, (by have := Hres.out; rw [Hzs.out] at this; exact this.yes Hfin.out), H10.out.2.2⟩, ?_⟩
            rw [RangeIs.leftN H10.out.1, RangeIs.leftN Hrg.out, Hzs.out]
            simp
           ·rw [decide_eq_false hfin] at hQ
            have HQ := Lib.hid hQ
            have Hfin := Lib.hid hfin
            clear hQ hfin
            go_wp2_with (go_at_call 104; refine HQ.out.mono ?_; rintro e w9 ⟨i9, rfl, hb9⟩)
            obtain ⟨hrg8, hrs8, hpk, hb8o⟩ := H8.out
            have hrs9 := MapIs.below hrs8 hb9 (MapIs.lt hrs8)
            have hrg9 := RangeIs.below hrg8 hb9 (MapIs.lt (RangeIs.isMap hrg8)) (RangeIs.lt hrg8)
            have hs8o := hb8o.size
            refine ⟨⟨ra ++ rb, rs, by rw [List.map_append]; exact hrg9, hrs9, (by have := Hres.out; rw [Hzs.out] at this; exact this.no Hfin.out), hb8o.trans (hb9.mono (by omega))⟩, ?_⟩
            rw [RangeIs.leftN hrg9, RangeIs.leftN Hrg.out, Hzs.out]
            simp
      ·have d1 : decide (ks.length ≤ 2000) = false := decide_eq_false hl
       rw [d1]
       have hlim := Lib.hid (show RunsOf M (bl x) [] 2 from runs_limit Hv.out h4 Hcir.out hkx (not_few (by omega) HP.out.1.nodup HP.out.1.snd))
       clear hl
       by_cases hk : k < x.size
       ·have hkI : decide ((k : Int) < (x.size : Int)) = true := decide_eq_true (by omega)
        go_wp2_with fail
        go_ret2
        exact ⟨_, [], 2, rfl, World.ownsRow_nil _ _ _ _, hbWr, hlim.out⟩
       ·have hkI : decide ((k : Int) < (x.size : Int)) = false := decide_eq_false (by omega)
        go_wp2_with fail
        go_ret2
        exact ⟨_, [], 2, rfl, World.ownsRow_nil _ _ _ _, hbWr, hlim.out⟩
  ·have d4 : decide ((400 : Int) < (x.size : Int)) = true := decide_eq_true (by omega)
   go_wp2_with (go_at_call 101; refine HQ2.out.mono ?_; rintro e w1 ⟨rfl, hb1⟩)
   have hbF := HW0.out.2.trans (hb1.mono HW0.out.2.size)
   go_ret2
   exact HQ1.out.2 _ hbF (fun h => h4 h.2)
 ·have HQ2 := Lib.hid (show Calls Tryz.prog 101 _ W0 (fun e w' => e = .returned (.bool false) ∧ Below W0.heap.size W0 w') from by have := HQ1.out.1; rwa [decide_eq_false hv] at this)
  have Hv := Lib.hid hv
  clear hv
  go_wp2_with (go_at_call 101; refine HQ2.out.mono ?_; rintro e w1 ⟨rfl, hb1⟩)
  have hbF := HW0.out.2.trans (hb1.mono HW0.out.2.size)
  go_ret2
  exact HQ1.out.2 _ hbF (fun h => Hv.out h.1)
theorem Runs_any (M : Mach) (v : Value) (x : ByteArray) (hx : x.size ≤ maxLen) (w : World) (h : MachAt w w.heap.size v M) :
  Calls Tryz.prog 59 #[v, .string x] w (RunsPost M x w) := by
 refine (Runs_new M v x hx w h).mono ?_
 rintro e w' ⟨v', ts, err, he, ho, hb, hr⟩
 obtain ⟨a, c, rfl, _, hrow⟩ := RowAt.of_own ho
 exact ⟨_, ts, err, he, ⟨a, c, rfl, hrow⟩, hb, hr⟩
end Go.Proofs.YthachfkcgdfdfaaGreatDoor
