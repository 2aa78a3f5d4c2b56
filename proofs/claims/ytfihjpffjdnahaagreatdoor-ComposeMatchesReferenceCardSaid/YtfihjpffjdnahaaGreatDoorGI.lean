/- W12 · W10 -/
import Derived.Test.YtfihjpffjdnahaaGreatDoorGA
import Derived.Test.YtfihjpffjdnahaaGreatDoorGS
import Derived.Laws.StructEq
import Derived.Deep.QuietTactic
import Derived.BigQuiet
import Derived.StillTailTactics
import Derived.Deep.RegionHeld3
import Derived.Deep.DeepFit
import Derived.Lib.Strings
/- Walks of the reference's machines (gazetteerref12): the order of arcs, sorting. -/
namespace Go.Proofs.YtfihjpffjdnahaaGreatDoor
open Go.RowKit Classical

set_option maxRecDepth 100000 in
set_option maxHeartbeats 400000 in
theorem before12_any (a b : Arc) (w : World) :
  Calls Tryz.prog 49 #[.agg #[.int .i64 a.frm, .int .i64 a.inp, .int .i64 a.out, .int .i64 a.to], .agg #[.int .i64 b.frm, .int .i64 b.inp, .int .i64 b.out, .int .i64 b.to]] w
   fun e w' => e = .returned (.bool (decide (a.lt b))) ∧ Below w.heap.size w w' := by
 go_enter Tryz.func49, Tryz.ntmps49
 go_wp2
 all_goals
  go_ret
  refine ⟨ret_dec ?_, ((Below.refl _ _).alloc (Nat.le_refl _) _).alloc (by simp) _⟩
  simp only [bne_iff_ne, ne_eq, bne_eq_false_iff_eq] at *
  unfold Arc.lt
  simp
  omega
theorem before12_yes (a b : Arc) (h : a.lt b) (w : World) :
  Calls Tryz.prog 49 #[.agg #[.int .i64 a.frm, .int .i64 a.inp, .int .i64 a.out, .int .i64 a.to], .agg #[.int .i64 b.frm, .int .i64 b.inp, .int .i64 b.out, .int .i64 b.to]] w
   fun e w' => e = .returned (.bool true) ∧ Below w.heap.size w w' :=
 (before12_any a b w).mono fun _ _ hh => ⟨by rw [hh.1, decide_eq_true h], hh.2⟩
theorem before12_no (a b : Arc) (h : ¬ a.lt b) (w : World) :
  Calls Tryz.prog 49 #[.agg #[.int .i64 a.frm, .int .i64 a.inp, .int .i64 a.out, .int .i64 a.to], .agg #[.int .i64 b.frm, .int .i64 b.inp, .int .i64 b.out, .int .i64 b.to]] w
   fun e w' => e = .returned (.bool false) ∧ Below w.heap.size w w' :=
 (before12_any a b w).mono fun _ _ hh => ⟨by rw [hh.1, decide_eq_false h], hh.2⟩

theorem eql_arc (x y : Arc) (w : World) : (binOp .eql 40 (.agg #[.int .i64 x.frm, .int .i64 x.inp, .int .i64 x.out, .int .i64 x.to]) (.agg #[.int .i64 y.frm, .int .i64 y.inp, .int .i64 y.out, .int .i64 y.to])).run Tryz.prog w = .ok (.bool (decide (x = y))) w := by
 have hS : Tryz.prog.underlying 40 = some (.struct (Tryz.prog.fieldsOf 40)) := by kernel_rfl
 have hp : Tryz.prog.stoodInHeld 40 = false := by kernel_rfl
 rw [run_eql_struct, show (10000 : Nat) = 9999 + 1 from rfl, run_equalIn_agg w 9999 40 _ _ hS hp]
 simp only [Program.fieldsOf, Tryz.underlying40]
 go_simp
 obtain ⟨a, b, c, d⟩ := x
 obtain ⟨a', b', c', d'⟩ := y
 simp only [Arc.mk.injEq]
 by_cases h1 : a = a' <;> by_cases h2 : b = b' <;> by_cases h3 : c = c' <;> by_cases h4 : d = d' <;> simp [h1, h2, h3, h4]
theorem neq_arc (x y : Arc) (w : World) : (binOp .neq 40 (.agg #[.int .i64 x.frm, .int .i64 x.inp, .int .i64 x.out, .int .i64 x.to]) (.agg #[.int .i64 y.frm, .int .i64 y.inp, .int .i64 y.out, .int .i64 y.to])).run Tryz.prog w = .ok (.bool (!decide (x = y))) w := by
 have hS : Tryz.prog.underlying 40 = some (.struct (Tryz.prog.fieldsOf 40)) := by kernel_rfl
 have hp : Tryz.prog.stoodInHeld 40 = false := by kernel_rfl
 rw [run_neq_struct, show (10000 : Nat) = 9999 + 1 from rfl, run_equalIn_agg w 9999 40 _ _ hS hp]
 simp only [Program.fieldsOf, Tryz.underlying40]
 go_simp
 obtain ⟨a, b, c, d⟩ := x
 obtain ⟨a', b', c', d'⟩ := y
 simp only [Arc.mk.injEq]
 by_cases h1 : a = a' <;> by_cases h2 : b = b' <;> by_cases h3 : c = c' <;> by_cases h4 : d = d' <;> simp [h1, h2, h3, h4]
theorem guard_arc (op : BinOp) (a b : Operand) (x y : Array Value) (w : World) : (eqGuard op 40 a b (.agg x) (.agg y)).run Tryz.prog w = .ok () w :=
 run_eqGuard_agg w op _ a b x y (by kernel_rfl)
theorem info_arc : (Tryz.prog.info? 40).map (fun i => (i.zero, i.size, i.bytes)) = some (some (.agg #[.int .i64 0, .int .i64 0, .int .i64 0, .int .i64 0]), 4, 32) := by kernel_rfl

theorem RowAt.arcs {w : World} {B : Nat} {a : Option Addr} {l : List Arc} (h : RowAt w B a (flat l)) (hn : 0 < l.length) :
  ∃ b off, a = some ⟨b, off, none⟩ ∧ b < B ∧ ∀ i (hi : i < l.length), w.cell? ⟨b, off + i * 4, none⟩ = some (.int .i64 l[i].frm) ∧ w.cell? ⟨b, off + i * 4 + 1, none⟩ = some (.int .i64 l[i].inp) ∧
   w.cell? ⟨b, off + i * 4 + 2, none⟩ = some (.int .i64 l[i].out) ∧ w.cell? ⟨b, off + i * 4 + 3, none⟩ = some (.int .i64 l[i].to) := by
 obtain ⟨b, off, e, hb, hc⟩ := h (by rw [flat_length]; omega)
 refine ⟨b, off, e, hb, fun i hi => ?_⟩
 obtain ⟨h0, h1, h2, h3⟩ := flat_get l i l[i] (List.getElem?_eq_getElem hi)
 exact ⟨hc _ _ h0, hc _ _ h1, hc _ _ h2, hc _ _ h3⟩

end Go.Proofs.YtfihjpffjdnahaaGreatDoor

/- Walks of the reference's alphabets (gazetteerref10). -/
namespace Go.Proofs.YtfihjpffjdnahaaGreatDoor
open Go.RowKit Classical

def Few10 (A : Alph) : Prop :=
 (∀ i l, i < 70 → A.letters[i]? = some l → l.size ≤ 20) ∧ A.letters.length ≤ 70 ∧ A.small.length ≤ 70 ∧ A.name.size ≤ 100

set_option maxHeartbeats 400000 in
theorem few10_any (v : Value) (A : Alph) (w : World) (h : AlphAt w w.heap.size v A) :
  Calls Tryz.prog 6 #[v] w fun e w' => e = .returned (.bool (decide (Few10 A))) ∧ Below w.heap.size w w' := by
 obtain ⟨la, lc, sa, sc, rfl, hn, hl1, hs1, hls, hl, hs⟩ := h
 unfold maxLen at hl1 hs1 hn
 go_enter Tryz.func6, Tryz.ntmps6
 go_wp2
 go_loop [3] (fun i => ∃ k : Nat, k ≤ A.letters.length ∧ k ≤ 70 ∧ i = .int .i64 k ∧ (∀ i l, i < k → A.letters[i]? = some l → l.size ≤ 20)) (fun i => A.letters.length - (intOf i).toNat)
 case atStart => exact ⟨0, Nat.zero_le _, by omega, rfl, by simp⟩
 case round =>
  obtain ⟨k, hk, hk7, rfl, hall⟩ := hrel
  have H := Lib.hid hall
  clear hall
  by_cases hlt : k < A.letters.length ∧ k < 70
  ·obtain ⟨hlt, h7⟩ := hlt
   obtain ⟨b, off, rfl, hb, hc⟩ := hl.strs (by omega)
   have hck := hc k hlt
   clear hc hl
   go_wp2
   ·have h1 : (20 : Int) < ↑A.letters[k].size := by assumption
    go_ret
    refine ⟨ret_no fun hf => ?_, (Below.refl _ _).alloc (Nat.le_refl _) _⟩
    have := hf.1 k _ h7 (List.getElem?_eq_getElem hlt)
    omega
   ·refine ⟨⟨k + 1, by omega, by omega, by go_num, fun i l hi hl => ?_⟩, by simp [intOf]; omega⟩
    rcases Nat.lt_succ_iff_lt_or_eq.1 hi with h | rfl
    ·exact H.out i l h hl
    ·rw [List.getElem?_eq_getElem hlt] at hl; obtain rfl := Option.some.inj hl; omega
  ·go_wp2
   ·have : (70 : Int) < A.letters.length := by assumption
    go_ret
    exact ⟨ret_no fun hf => by have := hf.2.1; omega, (Below.refl _ _).alloc (Nat.le_refl _) _⟩
   ·go_ret
    refine ⟨ret_dec ?_, (Below.refl _ _).alloc (Nat.le_refl _) _⟩
    rw [Few10, decide_eq_true_iff]
    exact ⟨fun h => ⟨fun i l hi hl => H.out i l (by have := (List.getElem?_eq_some_iff.1 hl).1; omega) hl, by omega, by omega, by omega⟩, fun h => by omega⟩
   ·go_ret
    exact ⟨ret_no fun hf => by have := hf.2.2.1; omega, (Below.refl _ _).alloc (Nat.le_refl _) _⟩

theorem extract0_eq (s t : ByteArray) : ((s.extract 0 t.size).toList == t.toList) = true ↔ bl t <+: bl s := by
 rw [ByteArray.toList_eq, ByteArray.toList_eq, Lib.extract_data, beq_iff_eq, List.drop_zero, Nat.sub_zero]
 unfold bl
 have ht : t.size = t.data.toList.length := by simp
 rw [ht]
 constructor
 ·intro e; exact e ▸ List.take_prefix _ _
 ·intro e; exact take_of_prefix e

set_option maxHeartbeats 400000 in
theorem begins10_any (s t : ByteArray) (w : World) :
  Calls Tryz.prog 56 #[.string s, .string t] w fun e w' => e = .returned (.bool (decide (bl t <+: bl s))) ∧ w = w' := by
 go_enter Tryz.func56, Tryz.ntmps56
 go_wp2
 ·have h : t.size ≤ s.size := by assumption
  go_ret
  exact ⟨ret_dec (extract0_eq s t), rfl⟩
 ·have h : ¬ t.size ≤ s.size := by assumption
  go_ret
  refine ⟨ret_no fun hf => h ?_, rfl⟩
  have := hf.length_le
  rwa [bl_length, bl_length] at this

theorem begins10_yes (s t : ByteArray) (h : bl t <+: bl s) (w : World) :
  Calls Tryz.prog 56 #[.string s, .string t] w fun e w' => e = .returned (.bool true) ∧ w' = w :=
 (begins10_any s t w).mono fun _ _ hh => ⟨by rw [hh.1, decide_eq_true h], hh.2.symm⟩
theorem begins10_no (s t : ByteArray) (h : ¬ bl t <+: bl s) (w : World) :
  Calls Tryz.prog 56 #[.string s, .string t] w fun e w' => e = .returned (.bool false) ∧ w' = w :=
 (begins10_any s t w).mono fun _ _ hh => ⟨by rw [hh.1, decide_eq_false h], hh.2.symm⟩

def Alph.bls (A : Alph) : List (List UInt8) := A.letters.map bl

set_option maxRecDepth 100000 in
set_option maxHeartbeats 1000000 in
theorem follows10_any (A : Alph) (hpos : ∀ l ∈ A.letters, 1 ≤ l.size) : ∀ (n : Nat) (s : ByteArray), s.size < n → s.size ≤ maxLen → ∀ (v : Value) (w : World), AlphAt w w.heap.size v A →
  Calls Tryz.prog 57 #[v, .string s] w fun e w' => e = .returned (.bool (decide (Follows A.bls (bl s)))) ∧ Below w.heap.size w w' := by
 intro n
 induction n with
 | zero => intro s h; omega
 | succ n ih =>
 intro s hsn hs v w h
 have hA := h
 obtain ⟨la, lc, sa, sc, rfl, hn, hl1, hs1, hls, hl, hsm⟩ := h
 have IH := Lib.hid ih
 clear ih
 unfold maxLen at hs hl1 hs1 hn
 go_enter Tryz.func57, Tryz.ntmps57
 go_wp2_with fail
 obtain ⟨W0, hW0⟩ : ∃ W0 : World, W0 = (w.alloc (.cells #[.string A.name, .slice la A.letters.length lc, .slice sa A.small.length sc] 28)) := ⟨_, rfl⟩
 rw [← hW0]
 go_loopw [5] (fun i wr => ∃ k : Nat, k ≤ A.letters.length ∧ i = .int .i64 k ∧ (∀ i l, i < k → A.letters[i]? = some l → ¬ (bl s <+: bl l ∨ bl l <+: bl s ∧ Follows A.bls ((bl s).drop l.size))) ∧ Below W0.heap.size W0 wr) (fun i _ => A.letters.length - (intOf i).toNat)
 case atStart => exact ⟨0, Nat.zero_le _, rfl, by simp, Below.refl _ _⟩
 case round =>
  obtain ⟨k, hk, rfl, hall, hbw⟩ := hrel
  have hsz : W0.heap.size = w.heap.size + 1 := by rw [hW0]; simp
  have c0 : wr.cell? ⟨w.heap.size, 0, none⟩ = some (.string A.name) := (hbw.cell (p := ⟨w.heap.size, 0, none⟩) (by simp [hsz])).trans (by rw [hW0]; simp)
  have c1 : wr.cell? ⟨w.heap.size, 1, none⟩ = some (.slice la A.letters.length lc) := (hbw.cell (p := ⟨w.heap.size, 1, none⟩) (by simp [hsz])).trans (by rw [hW0]; simp)
  have c2 : wr.cell? ⟨w.heap.size, 2, none⟩ = some (.slice sa A.small.length sc) := (hbw.cell (p := ⟨w.heap.size, 2, none⟩) (by simp [hsz])).trans (by rw [hW0]; simp)
  have hw0 : Below w.heap.size w W0 := by rw [hW0]; exact (Below.refl _ _).alloc (Nat.le_refl _) _
  have hwr : Below w.heap.size w wr := hw0.trans (hbw.mono (by omega))
  have hsz2 : w.heap.size ≤ wr.heap.size := hwr.size
  have H := Lib.hid hall
  clear hall
  by_cases hlt : k < A.letters.length
  ·have hmem : bl A.letters[k] ∈ A.bls := List.mem_map_of_mem (List.getElem_mem hlt)
   obtain ⟨b, off, rfl, hb, hc⟩ := hl.strs (by omega)
   have c3 : wr.cell? ⟨b, off + k, none⟩ = some (.string A.letters[k]) := ((hbw.cell (p := ⟨b, off + k, none⟩) (by simp [hsz]; omega)).trans (by rw [hW0]; exact World.cell?_alloc_lt _ _ _ hb)).trans (hc k hlt)
   clear hc
   go_wp2_with (go_at_call 56; refine (begins10_any _ _ _).mono ?_; rintro e w' ⟨rfl, rfl⟩)
   ·have h1 : bl s <+: bl A.letters[k] := by assumption
    go_ret
    exact ⟨ret_yes ((follows_iff _ _).2 ⟨_, hmem, .inl h1⟩), hwr⟩
   ·have h1 : ¬ bl s <+: bl A.letters[k] := by assumption
    by_cases hp : bl A.letters[k] <+: bl s
    ·have hle : A.letters[k].size ≤ s.size := by have := hp.length_le; rwa [bl_length, bl_length] at this
     refine wp_region_still_tail 17 (by kernel_rfl) (by kernel_rfl) ?_
     simp only [List.take_succ_cons, List.take_zero, List.drop_succ_cons, List.drop_zero]
     repeat (first | still_step | still_call (begins10_yes _ _ hp _))
     refine wpStill_nil ?_
     change wpList _ _ _ _ _ wr.drew
     have hpos1 := hpos _ (List.getElem_mem hlt)
     have hx : (s.extract A.letters[k].size s.size).size < n := by simp; omega
     have hx2 : (s.extract A.letters[k].size s.size).size ≤ maxLen := by unfold maxLen; simp; omega
     have hal : AlphAt wr.drew wr.drew.heap.size (.agg #[.string A.name, .slice (some ⟨b, off, none⟩) A.letters.length lc, .slice sa A.small.length sc]) A :=
      (hA.below hwr.drew (Nat.le_refl _)).more hsz2
     have hx3 : bl (s.extract A.letters[k].size s.size) = (bl s).drop A.letters[k].size := by
      unfold bl; rw [Lib.extract_data, List.take_of_length_le (by simp)]
     have Hx3 := Lib.hid hx3
     clear hx3
     go_wp2_with fail
     refine (IH.out _ hx hx2 _ _ hal).mono ?_
     rintro e w1 ⟨rfl, hb1⟩
     rw [Hx3.out]
     by_cases hf : Follows A.bls ((bl s).drop A.letters[k].size)
     ·rw [decide_eq_true hf]
      go_wp2
      go_ret
      exact ⟨ret_yes ((follows_iff _ _).2 ⟨_, hmem, .inr ⟨_, append_of_prefix.2 ⟨hp, rfl⟩, by rw [bl_length]; exact hf⟩⟩), hwr.drew.trans (hb1.mono hsz2)⟩
     ·rw [decide_eq_false hf]
      go_wp2
      refine ⟨⟨k + 1, by omega, by go_num, fun i l hi hl' => ?_, hbw.drew.trans (hb1.mono hbw.size)⟩, by simp [intOf]; omega⟩
      rcases Nat.lt_succ_iff_lt_or_eq.1 hi with h | rfl
      ·exact H.out i l h hl'
      ·rw [List.getElem?_eq_getElem hlt] at hl'
       obtain rfl := Option.some.inj hl'
       rintro (h | h)
       ·exact h1 h
       ·exact hf h.2
    ·go_quiet ((go_at_call 56; exact Calls.quiet_of_same (begins10_no _ _ hp _)))
     go_wp2
     refine ⟨⟨k + 1, by omega, by go_num, fun i l hi hl' => ?_, below_drewN hbw _⟩, by simp [intOf]; omega⟩
     rcases Nat.lt_succ_iff_lt_or_eq.1 hi with h | rfl
     ·exact H.out i l h hl'
     ·rw [List.getElem?_eq_getElem hlt] at hl'
      obtain rfl := Option.some.inj hl'
      rintro (h | h)
      ·exact h1 h
      ·exact hp h.1
  ·go_wp2
   go_ret
   refine ⟨ret_no fun hf => ?_, hwr⟩
   obtain ⟨l, hl', h⟩ := (follows_iff _ _).1 hf
   obtain ⟨m, hm, rfl⟩ := List.mem_map.1 hl'
   obtain ⟨i, hi, hi'⟩ := List.getElem_of_mem hm
   refine H.out i m (by omega) (by rw [List.getElem?_eq_getElem hi, hi']) ?_
   rcases h with h | ⟨r, hr, h⟩
   ·exact .inl h
   ·obtain ⟨h1, rfl⟩ := append_of_prefix.1 hr
    rw [bl_length] at h
    exact .inr ⟨h1, h⟩

theorem bl_extract_to (s : ByteArray) (k : Nat) : bl (s.extract k s.size) = (bl s).drop k := by
 unfold bl; rw [Lib.extract_data, List.take_of_length_le (by simp)]

def AtInv (L : List (List UInt8)) (t : List UInt8) (k : Nat) (out : Int) : Prop :=
 (out = -1 ∧ ∀ i l, i < k → L[i]? = some l → ¬ l <+: t) ∨
 (∃ j l, j < k ∧ out = (j : Int) ∧ L[j]? = some l ∧ l <+: t ∧ ∀ i m, i < k → L[i]? = some m → m <+: t → m.length ≤ l.length)

theorem AtInv.done {L : List (List UInt8)} {t : List UInt8} {out : Int} (hd : L.Nodup) (hl : ∀ l ∈ L, 1 ≤ l.length ∧ l.length ≤ 3) (h : AtInv L t L.length out) : out = atI L t := by
 unfold atI atF
 rcases h with ⟨rfl, h⟩ | ⟨j, l, _, rfl, hj, hp, hb⟩
 ·rw [atN_none]
  intro l hl' hp
  obtain ⟨i, hi, rfl⟩ := List.getElem_of_mem hl'
  exact h i _ hi (List.getElem?_eq_getElem hi) hp
 ·have hm := hl l (List.mem_of_getElem? hj)
  rw [atN_best L hd t j l hj hp (fun m hm' hp' => ?_) hm.1 3 hm.2]
  obtain ⟨i, hi, rfl⟩ := List.getElem_of_mem hm'
  exact hb i _ hi (List.getElem?_eq_getElem hi) hp'

theorem AtInv.skip {L : List (List UInt8)} {t : List UInt8} {k : Nat} {out : Int} {l : List UInt8} (h : AtInv L t k out) (hk : L[k]? = some l) (hp : ¬ l <+: t) : AtInv L t (k + 1) out := by
 rcases h with ⟨e, h⟩ | ⟨j, m, hj, e, hm, hp', hb⟩
 ·refine .inl ⟨e, fun i x hi hx => ?_⟩
  rcases Nat.lt_succ_iff_lt_or_eq.1 hi with hi | rfl
  ·exact h i x hi hx
  ·rw [hk] at hx; obtain rfl := Option.some.inj hx; exact hp
 ·refine .inr ⟨j, m, by omega, e, hm, hp', fun i x hi hx hpx => ?_⟩
  rcases Nat.lt_succ_iff_lt_or_eq.1 hi with hi | rfl
  ·exact hb i x hi hx hpx
  ·rw [hk] at hx; obtain rfl := Option.some.inj hx; exact absurd hpx hp
theorem AtInv.keep {L : List (List UInt8)} {t : List UInt8} {k j : Nat} {l m : List UInt8} (h : AtInv L t k (j : Int)) (hk : L[k]? = some l) (hj : L[j]? = some m) (hle : l.length ≤ m.length) : AtInv L t (k + 1) (j : Int) := by
 rcases h with ⟨e, h⟩ | ⟨j', m', hj', e, hm, hp', hb⟩
 ·omega
 ·obtain rfl : j = j' := by omega
  rw [hj] at hm; obtain rfl := Option.some.inj hm
  refine .inr ⟨j, m, by omega, rfl, hj, hp', fun i x hi hx hpx => ?_⟩
  rcases Nat.lt_succ_iff_lt_or_eq.1 hi with hi | rfl
  ·exact hb i x hi hx hpx
  ·rw [hk] at hx; obtain rfl := Option.some.inj hx; exact hle
theorem AtInv.take {L : List (List UInt8)} {t : List UInt8} {k : Nat} {out : Int} {l : List UInt8} (h : AtInv L t k out) (hk : L[k]? = some l) (hp : l <+: t) (hgt : ∀ (j : Nat) (m : List UInt8), out = (j : Int) → L[j]? = some m → m.length < l.length) :
  AtInv L t (k + 1) (k : Int) := by
 refine .inr ⟨k, l, by omega, rfl, hk, hp, fun i x hi hx hpx => ?_⟩
 rcases Nat.lt_succ_iff_lt_or_eq.1 hi with hi | rfl
 ·rcases h with ⟨e, h⟩ | ⟨j', m', hj', e, hm, hp', hb⟩
  ·exact absurd hpx (h i x hi hx)
  ·have h1 := hb i x hi hx hpx
   have h2 := hgt _ _ e hm
   omega
 ·rw [hk] at hx; obtain rfl := Option.some.inj hx; omega

end Go.Proofs.YtfihjpffjdnahaaGreatDoor
