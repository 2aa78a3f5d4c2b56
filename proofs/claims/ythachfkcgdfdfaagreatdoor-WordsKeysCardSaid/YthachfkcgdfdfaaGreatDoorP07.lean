/- GC · A5 · GK -/
import Derived.Test.YthachfkcgdfdfaaGreatDoorP05
import Derived.Test.YthachfkcgdfdfaaGreatDoorP06
import Derived.Deep.LoopGhost
import Derived.WalkMore
import Derived.Laws.EntriesVeiled
import Derived.Laws.IdiomStrings
import Derived.IntWalk
import Derived.StillTailTactics
/- A3 · A4 -/
/- Walks: whether a text is a name (alphabet.named, rules.isName). -/
namespace Go.Proofs.YthachfkcgdfdfaaGreatDoor
open Go.RowKit Classical

set_option maxRecDepth 100000 in
set_option maxHeartbeats 1000000 in
theorem named_any (s : ByteArray) (hs : s.size ≤ maxLen) (w : World) :
  Calls Tryz.prog 143 #[.string s] w fun e w' => e = .returned (.bool (nameB (bl s))) ∧ Below w.heap.size w w' := by
 go_enter Tryz.func143, Tryz.ntmps143
 go_wp2_with fail
 refine (Lex_any s hs w).mono ?_
 rintro e w1 ⟨va, c, err, off, T, rfl, hT, hrow, hnm, hb⟩
 have Hnm := Lib.hid hnm
 clear hnm
 by_cases he : err = 0
 ·subst he
  by_cases h1 : T.length = 1
  ·obtain ⟨t, rfl⟩ : ∃ t, T = [t] := by
    cases T with
    | nil => simp at h1
    | cons t r => cases r with
     | nil => exact ⟨t, rfl⟩
     | cons a b => simp at h1
   obtain ⟨b, o, rfl, _, hc⟩ := hrow (by simp [flatT, Tok.cells, tokCells])
   have c0 := hc 0 (.int .i64 t.kind) (by simp [flatT, Tok.cells, tokCells])
   have c3 := hc 3 (.string t.text) (by simp [flatT, Tok.cells, tokCells])
   have c0' : w1.cell? ⟨b, o, none⟩ = some (.int .i64 t.kind) := c0
   clear hc h1 hT hrow
   by_cases hk : t.kind = 1
   ·have d1 : (t.kind == 1) = true := by simp [hk]
    by_cases ht : t.text = s
    ·have d2 : (t.text.toList == s.toList) = true := by rw [ht]; simp
     have Hk := Lib.hid (And.intro hk ht)
     clear hk ht
     go_wp2_with fail
     go_ret
     refine ⟨ret_bool ?_, hb⟩
     rw [eq_comm, Hnm.out]
     exact ⟨by trivial, t, rfl, Hk.out.1, Hk.out.2⟩
    ·have d2 : (t.text.toList == s.toList) = false := by
      rw [ByteArray.toList_eq, ByteArray.toList_eq, beq_eq_false_iff_ne]; exact fun e => ht (bl_inj e)
     have Hk := Lib.hid ht
     clear hk ht
     go_wp2_with fail
     go_ret
     refine ⟨ret_bool ?_, hb⟩
     rw [eq_comm, ← Bool.not_eq_true, Hnm.out]
     rintro ⟨_, t', e, _, h2⟩
     obtain rfl : t = t' := by simpa using e
     exact Hk.out h2
   ·have d1 : (t.kind == 1) = false := by simpa using hk
    have Hk := Lib.hid hk
    clear hk
    go_wp2_with fail
    go_ret
    refine ⟨ret_bool ?_, hb⟩
    rw [eq_comm, ← Bool.not_eq_true, Hnm.out]
    rintro ⟨_, t', e, h2, _⟩
    obtain rfl : t = t' := by simpa using e
    exact Hk.out h2
  ·have d1 : ((T.length : Int) == 1) = false := by simp; omega
   have H1 := Lib.hid h1
   clear h1
   go_wp2_with fail
   go_ret
   refine ⟨ret_bool ?_, hb⟩
   rw [eq_comm, ← Bool.not_eq_true, Hnm.out]
   rintro ⟨_, t, rfl, _⟩
   exact H1.out rfl
 ·have d1 : (err == 0) = false := by simpa using he
  have He := Lib.hid he
  clear he
  go_wp2_with fail
  go_ret
  refine ⟨ret_bool ?_, hb⟩
  rw [eq_comm, ← Bool.not_eq_true, Hnm.out]
  exact fun h => He.out h.1

set_option maxRecDepth 100000 in
set_option maxHeartbeats 1000000 in
theorem isName_any (s : ByteArray) (hs : s.size ≤ maxLen) (w : World) :
  Calls Tryz.prog 261 #[.string s] w fun e w' => e = .returned (.bool (nameB (bl s))) ∧ Below w.heap.size w w' := by
 go_enter Tryz.func261, Tryz.ntmps261
 go_wp2_with fail
 refine (Lex_any s hs w).mono ?_
 rintro e w1 ⟨va, c, err, off, T, rfl, hT, hrow, hnm, hb⟩
 have Hnm := Lib.hid hnm
 clear hnm
 by_cases he : err = 0
 ·subst he
  by_cases h1 : T.length = 1
  ·obtain ⟨t, rfl⟩ : ∃ t, T = [t] := by
    cases T with
    | nil => simp at h1
    | cons t r => cases r with
     | nil => exact ⟨t, rfl⟩
     | cons a b => simp at h1
   obtain ⟨b, o, rfl, _, hc⟩ := hrow (by simp [flatT, Tok.cells, tokCells])
   have c0 := hc 0 (.int .i64 t.kind) (by simp [flatT, Tok.cells, tokCells])
   have c3 := hc 3 (.string t.text) (by simp [flatT, Tok.cells, tokCells])
   have c0' : w1.cell? ⟨b, o, none⟩ = some (.int .i64 t.kind) := c0
   clear hc h1 hT hrow
   by_cases hk : t.kind = 1
   ·have d1 : (t.kind == 1) = true := by simp [hk]
    by_cases ht : t.text = s
    ·have d2 : (t.text.toList == s.toList) = true := by rw [ht]; simp
     have Hk := Lib.hid (And.intro hk ht)
     clear hk ht
     go_wp2_with fail
     go_ret
     refine ⟨ret_bool ?_, hb⟩
     rw [eq_comm, Hnm.out]
     exact ⟨by trivial, t, rfl, Hk.out.1, Hk.out.2⟩
    ·have d2 : (t.text.toList == s.toList) = false := by
      rw [ByteArray.toList_eq, ByteArray.toList_eq, beq_eq_false_iff_ne]; exact fun e => ht (bl_inj e)
     have Hk := Lib.hid ht
     clear hk ht
     go_wp2_with fail
     go_ret
     refine ⟨ret_bool ?_, hb⟩
     rw [eq_comm, ← Bool.not_eq_true, Hnm.out]
     rintro ⟨_, t', e, _, h2⟩
     obtain rfl : t = t' := by simpa using e
     exact Hk.out h2
   ·have d1 : (t.kind == 1) = false := by simpa using hk
    have Hk := Lib.hid hk
    clear hk
    go_wp2_with fail
    go_ret
    refine ⟨ret_bool ?_, hb⟩
    rw [eq_comm, ← Bool.not_eq_true, Hnm.out]
    rintro ⟨_, t', e, h2, _⟩
    obtain rfl : t = t' := by simpa using e
    exact Hk.out h2
  ·have d1 : ((T.length : Int) == 1) = false := by simp; omega
   have H1 := Lib.hid h1
   clear h1
   go_wp2_with fail
   go_ret
   refine ⟨ret_bool ?_, hb⟩
   rw [eq_comm, ← Bool.not_eq_true, Hnm.out]
   rintro ⟨_, t, rfl, _⟩
   exact H1.out rfl
 ·have d1 : (err == 0) = false := by simpa using he
  have He := Lib.hid he
  clear he
  go_wp2_with fail
  go_ret
  refine ⟨ret_bool ?_, hb⟩
  rw [eq_comm, ← Bool.not_eq_true, Hnm.out]
  exact fun h => He.out h.1

end Go.Proofs.YthachfkcgdfdfaaGreatDoor

/- Walk: the alphabet's map of letters (alphabet.places). -/
namespace Go.Proofs.YthachfkcgdfdfaaGreatDoor
open Go.RowKit Classical

/-- The pairs of a map from letters to their places. -/
def pairs (l : List ByteArray) : List (Value × Value) := l.zipIdx.map fun p => (.string p.1, .int .i64 (p.2 : Int))
theorem pairs_snoc (l : List ByteArray) (k : Nat) (h : k < l.length) : pairs (l.take (k + 1)) = pairs (l.take k) ++ [(.string l[k], .int .i64 (k : Int))] := by
 have : l.take (k + 1) = l.take k ++ [l[k]] := by rw [List.take_succ_eq_append_getElem h]
 rw [this, pairs, pairs, List.zipIdx_append, List.map_append]
 simp [List.length_take, Nat.min_eq_left (Nat.le_of_lt h)]
theorem mem_pairs {l : List ByteArray} {p : Value × Value} : p ∈ pairs l ↔ ∃ (i : Nat) (s : ByteArray), l[i]? = some s ∧ p = (.string s, .int .i64 (i : Int)) := by
 unfold pairs
 rw [List.mem_map]
 constructor
 ·rintro ⟨⟨s, i⟩, hm, rfl⟩
  rw [List.mem_zipIdx_iff_getElem?] at hm
  exact ⟨i, s, hm, rfl⟩
 ·rintro ⟨i, s, hi, rfl⟩
  exact ⟨(s, i), by rw [List.mem_zipIdx_iff_getElem?]; exact hi, rfl⟩

theorem zero_int (w : World) : (zeroValue 3).run Tryz.prog w = .ok (.int .i64 0) w := by kernel_rfl
theorem zero_bool (w : World) : (zeroValue 4).run Tryz.prog w = .ok (.bool false) w := by kernel_rfl

theorem look_pair_none {w : World} {b : Nat} {l : List ByteArray} (h : MapIs w b OkStr (pairs l)) {s : ByteArray} (hno : s ∉ l) :
  (Instr.lookup 141 (.map (some b)) (.string s) true).run Tryz.prog w = .ok (.tuple #[.int .i64 0, .bool false]) w := by
 have := h.look_none keyStr Tryz.underlying141 (zero_int w) (okStr s) (fun p hp he => by
  obtain ⟨i, t, hi, rfl⟩ := mem_pairs.1 hp
  have : t = s := by simpa using he
  subst this
  exact hno (List.mem_of_getElem? hi)) true
 simpa using this
theorem look_pair_some {w : World} {b : Nat} {l : List ByteArray} (h : MapIs w b OkStr (pairs l)) {s : ByteArray} {i : Nat} (hi : l[i]? = some s) :
  (Instr.lookup 141 (.map (some b)) (.string s) true).run Tryz.prog w = .ok (.tuple #[.int .i64 (i : Int), .bool true]) w := by
 have := h.look_some (t := 141) keyStr Tryz.underlying141 (mem_pairs.2 ⟨i, s, hi, rfl⟩) true
 simpa using this

def PlacesPost (A : Alph) (w : World) (e : Ending) (w' : World) : Prop :=
 ∃ m, e = .returned (.tuple #[m, .bool (decide (Formed10 A))]) ∧ (Formed10 A → ∃ b, m = .map (some b) ∧ w.heap.size ≤ b ∧ MapIs w' b OkStr (pairs A.letters)) ∧ Below w.heap.size w w'
theorem places_no {A : Alph} {w w' : World} (h : ¬ Formed10 A) (hb : Below w.heap.size w w') : PlacesPost A w (.returned (.tuple #[.map none, .bool false])) w' :=
 ⟨.map none, by rw [decide_eq_false h], fun hf => absurd hf h, hb⟩
theorem places_yes {A : Alph} {w w' : World} {b : Nat} (h : Formed10 A) (hbb : w.heap.size ≤ b) (hm : MapIs w' b OkStr (pairs A.letters)) (hb : Below w.heap.size w w') : PlacesPost A w (.returned (.tuple #[.map (some b), .bool true])) w' :=
 ⟨.map (some b), by rw [decide_eq_true h], fun _ => ⟨b, rfl, hbb, hm⟩, hb⟩

set_option maxRecDepth 100000 in
set_option maxHeartbeats 2000000 in
theorem places_any (A : Alph) (v : Value) (w : World) (h : AlphAt w w.heap.size v A) :
  Calls Tryz.prog 85 #[v] w (PlacesPost A w) := by
 have hA := h
 obtain ⟨la, lc, sa, sc, rfl, hn, hl1, hs1, hls, hl, hsm⟩ := h
 have hn2 := hn
 have hmm := @run_makeMap Tryz.prog
 unfold maxLen at hl1 hs1 hn
 go_enter Tryz.func85, Tryz.ntmps85
 go_wp2_with fail
 obtain ⟨W0, hW0⟩ : ∃ W0 : World, W0 = (w.alloc (.cells #[.string A.name, .slice la A.letters.length lc, .slice sa A.small.length sc] 89)) := ⟨_, rfl⟩
 rw [← hW0]
 have hw0 : Below w.heap.size w W0 := by rw [hW0]; exact (Below.refl _ _).alloc (Nat.le_refl _) _
 have hsz : W0.heap.size = w.heap.size + 1 := by rw [hW0]; simp
 have hbx : Box W0 w.heap.size [.string A.name, .slice la A.letters.length lc, .slice sa A.small.length sc] := by rw [hW0]; exact Box.new _ _ _
 clear hW0
 refine (named_any A.name hn2 _).mono ?_
 rintro e w1 ⟨rfl, hb1⟩
 have hb1w := hw0.trans (hb1.mono hw0.size)
 have hbx1 := hbx.below hb1 (by omega)
 have hl' := hl.below hb1w (Nat.le_refl _)
 have hsm' := hsm.below hb1w (Nat.le_refl _)
 have hs1w := hb1.size
 clear hbx hl hsm hb1 hw0
 have c1 : w1.cell? ⟨w.heap.size, 1, none⟩ = some (.slice la A.letters.length lc) := hbx1 1 _ rfl
 have c2 : w1.cell? ⟨w.heap.size, 2, none⟩ = some (.slice sa A.small.length sc) := hbx1 2 _ rfl
 by_cases hname : nameB (bl A.name) = true
 ·by_cases hlen : (1 ≤ A.letters.length ∧ A.letters.length ≤ 64) ∧ A.small.length = A.letters.length
  ·obtain ⟨⟨hn1, hn64⟩, hsl⟩ := hlen
   have hq : ((A.small.length : Int) != A.letters.length) = false := by simp [hsl]
   have hsll : A.small.length ≤ A.letters.length ∧ A.letters.length ≤ A.small.length := by omega
   rw [hname]
   have Hsl := Lib.hid hsl; have Hname := Lib.hid hname
   have c1m : (w1.alloc (.map #[] 0)).cell? ⟨w.heap.size, 1, none⟩ = some (.slice la A.letters.length lc) := (hbx1.alloc (by omega) (.map #[] 0)) 1 _ rfl
   clear hsl hname
   go_wp2_with fail
   clear c1m
   obtain ⟨b, off, rfl, hb, hc⟩ := hl'.strs (by omega)
   obtain ⟨b', off', rfl, hb', hc'⟩ := hsm'.nums (by omega)
   have hM0 : MapIs (w1.alloc (.map #[] 0)) w1.heap.size OkStr (pairs (A.letters.take 0)) := MapIs.made w1 OkStr
   have hB0 : Below w1.heap.size w1 (w1.alloc (.map #[] 0)) := (Below.refl _ _).alloc (Nat.le_refl _) _
   generalize w1.alloc (.map #[] 0) = W2 at hM0 hB0 ⊢
   have Hc := Lib.hid (fun (wr : World) (hbr : Below w1.heap.size w1 wr) i (hi : i < A.letters.length) => (hbr.cell (p := ⟨b, off + i, none⟩) (by show b < w1.heap.size; omega)).trans (hc i hi))
   have Hc' := Lib.hid (fun (wr : World) (hbr : Below w1.heap.size w1 wr) i (hi : i < A.small.length) => (hbr.cell (p := ⟨b', off' + i, none⟩) (by show b' < w1.heap.size; omega)).trans (hc' i hi))
   have Hbx := Lib.hid (fun (wr : World) (hbr : Below w1.heap.size w1 wr) => (hbx1.below hbr (by omega)).c3)
   have hM0' := Lib.hid hM0
   clear hc hc' hbx1 c1 c2 hM0
   go_loopw [38] (fun i wr => ∃ k : Nat, k ≤ A.letters.length ∧ i = .int .i64 k ∧ (∀ (a : Nat) l, a < k → A.letters[a]? = some l → Plain11 l 1 3) ∧ (A.letters.take k).Nodup ∧ MapIs wr w1.heap.size OkStr (pairs (A.letters.take k)) ∧ Below w1.heap.size w1 wr) (fun i _ => A.letters.length - (intOf i).toNat)
   case atStart => exact ⟨0, Nat.zero_le _, rfl, by simp, by simp, hM0'.out, hB0⟩
   case round =>
    obtain ⟨k, hk, rfl, hpl, hnd, hM, hbr⟩ := hrel
    have Hpl := Lib.hid hpl
    have Hnd := Lib.hid hnd
    have HM := Lib.hid hM
    have hwr := hb1w.trans (hbr.mono hb1w.size)
    clear hpl hnd hM
    by_cases hlt : k < A.letters.length
    ·have c3 := Hc.out wr hbr k hlt
     have hls' := hls _ (List.getElem_mem hlt)
     by_cases htw : A.letters[k] ∈ A.letters.take k
     ·obtain ⟨i, hi⟩ := List.getElem?_of_mem htw
      have hlk := look_pair_some HM.out hi
      have Hbad := Lib.hid (show ¬ Formed10 A from fun hf => by
       have hnd := hf.2.2.2.2.2.2.1
       obtain ⟨j, hj, hje⟩ := List.getElem_of_mem htw
       rw [List.length_take] at hj
       rw [List.getElem_take] at hje
       have := (List.getElem_inj hnd).1 hje
       omega)
      clear htw hi
      go_wp2_with fail
      go_ret2
      exact places_no Hbad.out hwr
     ·have hlk := look_pair_none HM.out htw
      by_cases hp : Plain11 A.letters[k] 1 3
      ·obtain ⟨w4, hrun, hM4, hg4, hs4⟩ := HM.out.put_new keyStr Tryz.underlying141 (okStr A.letters[k]) (fun p hp he => by
        obtain ⟨i, t, hi, rfl⟩ := mem_pairs.1 hp
        have : t = A.letters[k] := by simpa using he
        subst this
        exact htw (List.mem_of_getElem? hi)) (.int .i64 (k : Int))
       have Hnew := Lib.hid (And.intro htw (And.intro hp hM4))
       have hbr4 := hbr.grown hg4 hbr.size (fun j hj => by cases hj; exact Nat.le_refl _)
       have hprint := printed_any A.letters[k] wr hls'
       rw [decide_eq_true hp] at hprint
       clear htw hp hM4 hg4 hs4
       go_wp2_with (go_at_call 144; refine hprint.mono ?_; rintro e w' ⟨rfl, rfl⟩)
       refine ⟨⟨k + 1, by omega, by go_num, fun a l ha hl => ?_, ?_, ?_, hbr4⟩, by simp [intOf]; omega⟩
       ·rcases Nat.lt_succ_iff_lt_or_eq.1 ha with h | rfl
        ·exact Hpl.out a l h hl
        ·rw [List.getElem?_eq_getElem hlt] at hl; obtain rfl := Option.some.inj hl; exact Hnew.out.2.1
       ·rw [List.take_succ_eq_append_getElem hlt]
        refine List.nodup_append.2 ⟨Hnd.out, by simp, fun x hx y hy e => ?_⟩
        have : y = A.letters[k] := by simpa using hy
        subst this; subst e
        exact Hnew.out.1 hx
       ·rw [pairs_snoc _ _ hlt]; exact Hnew.out.2.2
      ·have hprint := printed_any A.letters[k] wr hls'
       rw [decide_eq_false hp] at hprint
       have Hbad := Lib.hid (show ¬ Formed10 A from fun hf => hp (by
        have := hf.2.2.2.2.1 _ (List.getElem_mem hlt)
        exact ⟨this.2.2, this.1, this.2.1⟩))
       clear htw hp
       go_wp2_with (go_at_call 144; refine hprint.mono ?_; rintro e w' ⟨rfl, rfl⟩)
       go_ret2
       exact places_no Hbad.out hwr
    ·obtain ⟨r0, r1, r2⟩ := Hbx.out wr hbr
     obtain rfl : k = A.letters.length := by omega
     clear r0 r1 hmm
     go_wp2_with fail
     go_loop [62] (fun i => ∃ j : Nat, j ≤ A.small.length ∧ i = .int .i64 j ∧ (∀ (a : Nat) z, a < j → A.small[a]? = some z → 0 ≤ z ∧ z < A.letters.length ∧ A.small[z.toNat]? = some z)) (fun i => A.small.length - (intOf i).toNat)
     case atStart => exact ⟨0, Nat.zero_le _, rfl, by simp⟩
     case round =>
      obtain ⟨j, hj, rfl, hz⟩ := hrel
      have Hz := Lib.hid hz
      clear hz
      by_cases hjl : j < A.small.length
      ·have c5 := Hc'.out wr hbr j hjl
       have hbadz : (¬ (0 ≤ A.small[j] ∧ A.small[j] < A.letters.length ∧ A.small[A.small[j].toNat]? = some A.small[j])) → ¬ Formed10 A := fun hne hf => hne
        ⟨(hf.2.2.2.2.2.1 _ (List.getElem_mem hjl)).1, (hf.2.2.2.2.2.1 _ (List.getElem_mem hjl)).2, hf.2.2.2.2.2.2.2 j _ (List.getElem?_eq_getElem hjl)⟩
       have Hbadz := Lib.hid hbadz
       clear hbadz
       by_cases hr : 0 ≤ A.small[j] ∧ A.small[j] < A.letters.length
       ·obtain ⟨hr0, hr1⟩ := hr
        obtain ⟨m, hm⟩ : ∃ m : Nat, A.small[j] = (m : Int) := ⟨A.small[j].toNat, by omega⟩
        have hml : m < A.small.length := by omega
        have c6 := Hc'.out wr hbr m hml
        have Hr := Lib.hid (And.intro hr0 hr1)
        rw [hm] at c5
        have Hm := Lib.hid hm
        have hmn : m < A.letters.length := by omega
        clear hr0 hr1 hm
        by_cases hr2 : 0 ≤ A.small[m] ∧ A.small[m] < A.letters.length
        ·obtain ⟨hs0, hs1⟩ := hr2
         by_cases he : A.small[m] = (m : Int)
         ·have d1 : (A.small[m] != (m : Int)) = false := by simp [he]
          have He := Lib.hid he
          clear he
          go_wp2_with fail
          refine ⟨⟨j + 1, by omega, by go_num, fun a z ha hz => ?_⟩, by simp [intOf]; omega⟩
          rcases Nat.lt_succ_iff_lt_or_eq.1 ha with h | rfl
          ·exact Hz.out a z h hz
          ·rw [List.getElem?_eq_getElem hjl] at hz
           obtain rfl := Option.some.inj hz
           refine ⟨Hr.out.1, Hr.out.2, ?_⟩
           rw [Hm.out, Int.toNat_natCast, List.getElem?_eq_getElem hml, He.out]
         ·have d1 : (A.small[m] != (m : Int)) = true := by simp [he]
          have Hbad := Lib.hid (Hbadz.out (fun hc => he (by
           have := hc.2.2
           rw [Hm.out, Int.toNat_natCast, List.getElem?_eq_getElem hml] at this
           exact Option.some.inj this)))
          clear he
          go_wp2_with fail
          go_ret2
          exact places_no Hbad.out hwr
        ·have Hbad := Lib.hid (show ¬ Formed10 A from fun hf => hr2 (hf.2.2.2.2.2.1 _ (List.getElem_mem hml)))
         by_cases hs0 : 0 ≤ A.small[m]
         ·have hs1 : (A.letters.length : Int) ≤ A.small[m] := by omega
          clear hr2
          go_wp2_with fail
          go_ret2
          exact places_no Hbad.out hwr
         ·clear hr2
          have hs1 : A.small[m] < 0 := by omega
          clear hs0
          go_wp2_with fail
          go_ret2
          exact places_no Hbad.out hwr
       ·have Hbad := Lib.hid (Hbadz.out (fun hc => hr ⟨hc.1, hc.2.1⟩))
        by_cases hs0 : 0 ≤ A.small[j]
        ·have hs1 : (A.letters.length : Int) ≤ A.small[j] := by omega
         clear hr
         go_wp2_with fail
         go_ret2
         exact places_no Hbad.out hwr
        ·clear hr
         have hs1 : A.small[j] < 0 := by omega
         clear hs0
         go_wp2_with fail
         go_ret2
         exact places_no Hbad.out hwr
      ·have Hyes := Lib.hid (show Formed10 A from ⟨Hname.out, hn1, hn64, Hsl.out, fun l hl => by
         obtain ⟨i, hi⟩ := List.getElem?_of_mem hl
         have := Hpl.out i l (List.getElem?_eq_some_iff.1 hi).1 hi
         exact ⟨this.2.1, this.2.2, this.1⟩, fun z hz => by
         obtain ⟨i, hi⟩ := List.getElem?_of_mem hz
         have := Hz.out i z (by have := (List.getElem?_eq_some_iff.1 hi).1; omega) hi
         exact ⟨this.1, this.2.1⟩, by have := Hnd.out; rwa [List.take_length] at this, fun i z hi => (Hz.out i z (by have := (List.getElem?_eq_some_iff.1 hi).1; omega) hi).2.2⟩)
       go_wp2_with fail
       go_ret2
       refine places_yes Hyes.out hb1w.size ?_ hwr
       have := HM.out
       rwa [List.take_length] at this
  ·have Hbad := Lib.hid (show ¬ Formed10 A from fun hf => hlen ⟨⟨hf.2.1, hf.2.2.1⟩, hf.2.2.2.1⟩)
   rw [hname]
   clear hname
   by_cases h1 : 1 ≤ A.letters.length
   ·by_cases h64 : A.letters.length ≤ 64
    ·have hq : ((A.small.length : Int) != A.letters.length) = true := by simp; omega
     clear hlen
     go_wp2_with fail
     go_ret2
     exact places_no Hbad.out hb1w
    ·clear hlen
     go_wp2_with fail
     go_ret2
     exact places_no Hbad.out hb1w
   ·clear hlen
    go_wp2_with fail
    go_ret2
    exact places_no Hbad.out hb1w
 ·have hname' : nameB (bl A.name) = false := by simpa using hname
  have Hbad := Lib.hid (show ¬ Formed10 A from fun hf => hname hf.1)
  rw [hname']
  clear hname hname'
  go_wp2_with fail
  go_ret2
  exact places_no Hbad.out hb1w

end Go.Proofs.YthachfkcgdfdfaaGreatDoor
/- Walk: alphabet.Valid. -/
namespace Go.Proofs.YthachfkcgdfdfaaGreatDoor
open Go.RowKit Classical

/-- A letter whose first n bytes are a letter, behind which letters can go on as it does. -/
def Bad (A : Alph) (l : ByteArray) (n : Nat) : Prop := 1 ≤ n ∧ n < l.size ∧ l.extract 0 n ∈ A.letters ∧ Follows A.bls ((bl l).drop n)
theorem bl_extract_take (l : ByteArray) (n : Nat) : bl (l.extract 0 n) = (bl l).take n := by
 unfold bl; rw [Lib.extract_data]; simp
theorem valid10_iff (A : Alph) : Valid10 A ↔ Formed10 A ∧ ∀ l ∈ A.letters, ∀ n, ¬ Bad A l n := by
 unfold Valid10
 constructor
 ·rintro ⟨hf, h⟩
  refine ⟨hf, fun l hl n ⟨h1, h2, h3, h4⟩ => ?_⟩
  obtain ⟨i, hi⟩ := List.getElem?_of_mem hl
  obtain ⟨k, hk⟩ := List.getElem?_of_mem h3
  have hs : (l.extract 0 n).size = n := by simp; omega
  refine h i k l _ (fun e => ?_) hi hk (by rw [bl_extract_take]; exact List.take_prefix _ _) (by rw [hs]; exact h4)
  subst e
  rw [hi] at hk
  have := congrArg ByteArray.size (Option.some.inj hk)
  rw [hs] at this; omega
 ·rintro ⟨hf, h⟩
  refine ⟨hf, fun i k l m hne hl hm hp hF => ?_⟩
  have hml := hp.length_le
  rw [bl_length, bl_length] at hml
  have hm1 := hf.pos m (List.mem_of_getElem? hm)
  have he : l.extract 0 m.size = m := bl_inj (by rw [bl_extract_take, ← bl_length]; exact take_of_prefix hp)
  refine h l (List.mem_of_getElem? hl) m.size ⟨hm1, ?_, by rw [he]; exact List.mem_of_getElem? hm, hF⟩
  rcases Nat.lt_or_ge m.size l.size with h1 | h1
  ·exact h1
  ·exfalso
   have : m = l := by rw [← he]; exact bl_inj (by rw [bl_extract_take, List.take_of_length_le (by rw [bl_length]; exact h1)])
   subst this
   have hnd := hf.2.2.2.2.2.2.1
   obtain ⟨hi', hie⟩ := List.getElem?_eq_some_iff.1 hl
   obtain ⟨hk', hke⟩ := List.getElem?_eq_some_iff.1 hm
   exact hne ((List.getElem_inj hnd).1 (hie.trans hke.symm))

theorem Box.drewN {w : World} {b : Nat} {cs : List Value} (h : Box w b cs) (n : Nat) : Box (w.drewN n) b cs := h
set_option maxRecDepth 100000 in
set_option maxHeartbeats 2000000 in
theorem AValid_any (A : Alph) (v : Value) (w : World) (h : AlphAt w w.heap.size v A) :
  Calls Tryz.prog 84 #[v] w fun e w' => e = .returned (.bool (decide (Valid10 A))) ∧ Below w.heap.size w w' := by
 have hA := h
 obtain ⟨la, lc, sa, sc, rfl, hn, hl1, hs1, hls, hl, hsm⟩ := h
 have hl2 := hl1
 unfold maxLen at hl1 hs1 hn
 go_enter Tryz.func84, Tryz.ntmps84
 go_wp2_with fail
 go_step3
 go_wp2_with fail
 obtain ⟨W0, hW0⟩ : ∃ W0 : World, W0 = (w.alloc (.cells #[.string A.name, .slice la A.letters.length lc, .slice sa A.small.length sc] 89)) := ⟨_, rfl⟩
 rw [← hW0]
 have hw0 : Below w.heap.size w W0 := by rw [hW0]; exact (Below.refl _ _).alloc (Nat.le_refl _) _
 have hsz : W0.heap.size = w.heap.size + 1 := by rw [hW0]; simp
 have hbx : AlphBox W0 w.heap.size A := by rw [hW0]; exact ⟨la, lc, sa, sc, Box.new _ _ _, hl.alloc (Nat.le_refl _) _, hsm.alloc (Nat.le_refl _) _⟩
 have hA0 : AlphAt W0 W0.heap.size (.agg #[.string A.name, .slice la A.letters.length lc, .slice sa A.small.length sc]) A := (hA.below hw0 (Nat.le_refl _)).more (by omega)
 have hbx0 : Box W0 w.heap.size [.string A.name, .slice la A.letters.length lc, .slice sa A.small.length sc] := by rw [hW0]; exact Box.new _ _ _
 clear hW0
 refine (places_any A _ _ hA0).mono ?_
 rintro e w1 ⟨m, rfl, hm, hb1⟩
 have hb1w := hw0.trans (hb1.mono hw0.size)
 by_cases hf : Formed10 A
 ·obtain ⟨b, rfl, hbb, hM⟩ := hm hf
  rw [decide_eq_true hf]
  have Hf := Lib.hid hf
  have hl' := hl.below hb1w (Nat.le_refl _)
  have hn1 := hf.2.1
  have hlen3 := Lib.hid (fun l hl => hf.2.2.2.2.1 l hl)
  obtain ⟨lb, off, rfl, hlb, hc⟩ := hl'.strs (by omega)
  have hbx1 := hbx.below hb1 (by omega)
  have hHid := Lib.hid (And.intro hbx1 (And.intro hM hc))
  have hs1w := hb1.size
  have hbq : Box w1 w.heap.size [.string A.name, .slice (some ⟨lb, off, none⟩) A.letters.length lc, .slice sa A.small.length sc] := hbx0.below hb1 (by omega)
  have c1 := (hbq.alloc (by omega) (.cells #[followsV w.heap.size w1.heap.size] 65)) 1 _ rfl
  unfold followsV at c1
  clear hbx1 hM hc hf hm hbx hl hl' hsm hA0 hbq hbx0
  go_wp2_with fail
  go_step3
  go_wp2_with fail
  clear c1
  obtain ⟨W, hW⟩ : ∃ W : World, W = w1.alloc (.cells #[followsV w.heap.size w1.heap.size] 65) := ⟨_, rfl⟩
  have hW' : w1.alloc (.cells #[.func (.func 140) #[] #[.pointer (some ⟨w.heap.size, 0, none⟩), .pointer (some ⟨w1.heap.size, 0, none⟩)]] 65) = W := by rw [hW]; rfl
  rw [hW']
  have hbW : Below w.heap.size w W := by rw [hW]; exact hb1w.alloc hb1w.size _
  have hsW : W.heap.size = w1.heap.size + 1 := by rw [hW]; simp
  obtain ⟨hbx1, hM, hc⟩ := hHid.out
  have HX := Lib.hid (show AlphBox W w.heap.size A ∧ Box W w1.heap.size [followsV w.heap.size w1.heap.size] ∧ MapIs W b OkStr (pairs A.letters) ∧ (∀ (i : Nat) (h : i < A.letters.length), W.cell? ⟨lb, off + i, none⟩ = some (.string A.letters[i])) ∧ W.cell? ⟨w1.heap.size, 0, none⟩ = some (followsV w.heap.size w1.heap.size) from by
   rw [hW]
   exact ⟨hbx1.below ((Below.refl _ _).alloc (Nat.le_refl _) _) (by omega), Box.new _ _ _, hM.alloc _, fun i hi => (World.cell?_alloc_lt _ _ _ (by show lb < w1.heap.size; omega)).trans (hc i hi), Box.new w1 [followsV w.heap.size w1.heap.size] 65 0 _ rfl⟩)
  clear hbx1 hM hc hHid hW hW'
  go_loopg [22] A.letters.length (fun g i wr => ∃ k : Nat, k + g = A.letters.length ∧ i = .int .i64 k ∧ (∀ (a : Nat) l, a < k → A.letters[a]? = some l → ∀ n, ¬ Bad A l n) ∧ ∃ q, wr = W.drewN q)
  case atStart => exact ⟨0, by omega, rfl, by simp, 0, rfl⟩
  case round =>
   obtain ⟨k, hkg, rfl, hto, q, rfl⟩ := hrel
   have Hto := Lib.hid hto
   clear hto
   cases gk with
   | zero =>
    have hkz : ¬ ((k : Int) < (A.letters.length : Int)) := by omega
    have HV := Lib.hid (show Valid10 A from (valid10_iff A).2 ⟨Hf.out, fun l hl => by
     obtain ⟨i, hi⟩ := List.getElem?_of_mem hl
     exact Hto.out i l (by have := (List.getElem?_eq_some_iff.1 hi).1; omega) hi⟩)
    go_wp2_with fail
    try rw [Exit.noGoto_ret]
    go_ret
    exact ⟨ret_yes HV.out, below_drewN' hbW _⟩
   | succ g =>
    have hkz : (k : Int) < (A.letters.length : Int) := by omega
    have hlt : k < A.letters.length := by omega
    have hls' := hls _ (List.getElem_mem hlt)
    have hl3 := hlen3.out _ (List.getElem_mem hlt)
    obtain ⟨l, hle⟩ : ∃ l, A.letters[k] = l := ⟨_, rfl⟩
    have c3 : (W.drewN q).cell? ⟨lb, off + k, none⟩ = some (.string l) := (HX.out.2.2.2.1 k hlt).trans (by rw [hle])
    rw [hle] at hls' hl3
    have Hle := Lib.hid hle
    have hl13 : 1 ≤ l.size ∧ l.size ≤ 3 := ⟨hl3.1, hl3.2.1⟩
    clear hle hl3
    unfold maxLen at hls'
    go_wp2_with fail
    go_loopg [8] (l.size - 1) (fun g2 n wx => ∃ n1 : Nat, 1 ≤ n1 ∧ n1 + g2 = l.size ∧ n = .int .i64 n1 ∧ (∀ m, m < n1 → ¬ Bad A l m) ∧ ∃ q2, wx = W.drewN q2)
    case atStart => exact ⟨1, by omega, by omega, rfl, fun m hm hB => by have := hB.1; omega, q, rfl⟩
    case round =>
     obtain ⟨n1, hn1, hng, rfl, hno, q2, hq2⟩ := hrel
     have Hno := Lib.hid hno
     have HR := Lib.hid (show AlphBox wr w.heap.size A ∧ Box wr w1.heap.size [followsV w.heap.size w1.heap.size] ∧ MapIs wr b OkStr (pairs A.letters) ∧ wr.cell? ⟨w1.heap.size, 0, none⟩ = some (followsV w.heap.size w1.heap.size) ∧ Below w.heap.size w wr from by
      rw [hq2]; exact ⟨HX.out.1.drewN q2, Box.drewN HX.out.2.1 q2, (HX.out.2.2.1).drewN q2, HX.out.2.2.2.2, below_drewN' hbW _⟩)
     have Hq2 := Lib.hid hq2
     clear hno hq2
     have Hnext := Lib.hid (fun (hall : ∀ n, ¬ Bad A l n) => (show ∀ (a : Nat) l', a < k + 1 → A.letters[a]? = some l' → ∀ n, ¬ Bad A l' n from fun a l' ha hl' => by
      rcases Nat.lt_succ_iff_lt_or_eq.1 ha with h | rfl
      ·exact Hto.out a l' h hl'
      ·rw [List.getElem?_eq_getElem hlt, Hle.out] at hl'
       obtain rfl := Option.some.inj hl'
       exact hall))
     cases gk with
     | zero =>
      have hnl : ¬ ((n1 : Int) < (l.size : Int)) := by omega
      go_wp2_with fail
      go_roundg g
      case measure => omega
      case rel =>
       refine ⟨k + 1, by omega, by go_num, Hnext.out (fun n hB => ?_), q2, Hq2.out⟩
       have := hB.2.1
       exact Hno.out n (by omega) hB
     | succ g2 =>
      have hnl : (n1 : Int) < (l.size : Int) := by omega
      by_cases hin : l.extract 0 n1 ∈ A.letters
      ·obtain ⟨i, hi⟩ := List.getElem?_of_mem hin
       have hlk := look_pair_some HR.out.2.2.1 hi
       have hx3 : bl (l.extract n1 l.size) = (bl l).drop n1 := bl_extract_to l n1
       have cF := fun q' => follows_any A (fun l hl => (hlen3.out l hl).1) hl2 w.heap.size w1.heap.size _ (l.extract n1 l.size) (Nat.lt_succ_self _) (by unfold maxLen; simp; omega) (wr.drewN q') (HR.out.1.drewN q') (Box.drewN HR.out.2.1 q')
       rw [hx3] at cF
       have cf0 : wr.cell? ⟨w1.heap.size, 0, none⟩ = some (.func (.func 140) #[] #[.pointer (some ⟨w.heap.size, 0, none⟩), .pointer (some ⟨w1.heap.size, 0, none⟩)]) := HR.out.2.2.2.1
       by_cases hF : Follows A.bls ((bl l).drop n1)
       ·have Hbad := Lib.hid (show ¬ Valid10 A from fun hv => ((valid10_iff A).1 hv).2 l (by rw [← Hle.out]; exact List.getElem_mem hlt) n1 ⟨hn1, by omega, hin, hF⟩)
        rw [decide_eq_true hF] at cF
        have HcF := Lib.hid cF
        clear hF hx3 hin hi cF
        go_wp2_with fail
        go_quiet ((go_at_call 140; exact Calls.quiet_of_same (HcF.out _)))
        go_wp2_with fail
        try rw [Exit.noGoto_ret]
        go_ret
        exact ⟨ret_no Hbad.out, below_drewN' HR.out.2.2.2.2 _⟩
       ·have Hnb := Lib.hid (show ¬ Bad A l n1 from fun hB => hF hB.2.2.2)
        rw [decide_eq_false hF] at cF
        have HcF := Lib.hid cF
        clear hF hx3 hin hi cF
        have Hno2 := Lib.hid (show ∀ m, m < n1 + 1 → ¬ Bad A l m from fun m hm => by
         rcases Nat.lt_succ_iff_lt_or_eq.1 hm with h | rfl
         ·exact Hno.out m h
         ·exact Hnb.out)
        by_cases h2 : n1 = 2
        ·have d2 : ((n1 : Int) == 2) = true := by simp [h2]
         have Hall := Lib.hid (show ∀ n, ¬ Bad A l n from fun n hB => by
          have := hB.2.1
          exact Hno2.out n (by omega) hB)
         clear h2
         go_wp2_with fail
         go_quiet ((go_at_call 140; exact Calls.quiet_of_same (HcF.out _)))
         go_wp2_with fail
         go_roundg g
         case measure => omega
         case rel => exact ⟨k + 1, by omega, by go_num, Hnext.out Hall.out, q2 + nq, by rw [Hq2.out, World.drewN_drewN]⟩
        ·have d2 : ((n1 : Int) == 2) = false := by simp; omega
         clear h2
         go_wp2_with fail
         go_quiet ((go_at_call 140; exact Calls.quiet_of_same (HcF.out _)))
         go_wp2_with fail
         go_roundg g2
         case measure => omega
         case rel => exact ⟨n1 + 1, by omega, by omega, by go_num, Hno2.out, q2 + nq, by rw [Hq2.out, World.drewN_drewN]⟩
      ·have hlk := look_pair_none HR.out.2.2.1 hin
       have Hno2 := Lib.hid (show ∀ m, m < n1 + 1 → ¬ Bad A l m from fun m hm => by
         rcases Nat.lt_succ_iff_lt_or_eq.1 hm with h | rfl
         ·exact Hno.out m h
         ·exact fun hB => hin hB.2.2.1)
       clear hin
       go_wp2_with fail
       go_roundg g2
       case measure => omega
       case rel => exact ⟨n1 + 1, by omega, by omega, by go_num, Hno2.out, q2, Hq2.out⟩
 ·rw [decide_eq_false hf]
  have Hf := Lib.hid hf
  clear hf hm
  go_wp2_with fail
  try rw [Exit.noGoto_ret]
  go_ret
  exact ⟨ret_no (fun hv => Hf.out hv.1), hb1w⟩

end Go.Proofs.YthachfkcgdfdfaaGreatDoor
/- K1 · K2 -/
/- Walks of machine's small functions: the text after a symbol. -/
namespace Go.Proofs.YthachfkcgdfdfaaGreatDoor
open Go.RowKit Classical

set_option maxRecDepth 100000 in
set_option maxHeartbeats 1000000 in
theorem after_none (s : ByteArray) (w : World) :
  Calls Tryz.prog 171 #[.string s, .int .i64 0] w fun e w' => e = .returned (.string s) ∧ w' = w := by
 go_enter Tryz.func171, Tryz.ntmps171
 go_wp2
 go_ret
 exact ⟨rfl, rfl⟩

set_option maxRecDepth 100000 in
set_option maxHeartbeats 1000000 in
theorem after_some (s : ByteArray) (c : Nat) (h0 : 0 < c) (hc : c < 256) (hs : s.size ≤ 1000000) (w : World) :
  Calls Tryz.prog 171 #[.string s, .int .i64 c] w fun e w' => e = .returned (.string (s ++ ⟨#[c.toUInt8]⟩)) ∧ Below w.heap.size w w' := by
 have hw : IntKind.u8.wrap (c : Int) = (c : Int) := by simp [IntKind.wrap, IntKind.bits, IntKind.signed]; omega
 have d0 : ((c : Int) == 0) = false := by rw [beq_eq_false_iff_ne]; omega
 have hcv := run_convert_bytes_back (P := Tryz.prog) (w.alloc (.cells #[.int .u8 (c : Int)] 5)) 112 9 5 ⟨w.heap.size, 0, none⟩ 1 [c.toUInt8] Tryz.underlying112 Tryz.underlying5 Tryz.underlying9 (fun j hj => by
  obtain rfl : j = 0 := by simpa using hj
  have := (Blk.new w #[.int .u8 (c : Int)] 5).cell 0
  simp only [Addr.add]
  refine this.trans ?_
  simp [Nat.mod_eq_of_lt hc])
 rw [show ([c.toUInt8] : List UInt8).length = 1 from rfl] at hcv
 go_enter Tryz.func171, Tryz.ntmps171
 go_wp2
 go_ret
 exact ⟨rfl, (Below.refl _ _).alloc (Nat.le_refl _) _⟩

set_option maxRecDepth 100000 in
set_option maxHeartbeats 1000000 in
theorem state_any (z n : Int) (b : Nat) (w : World) (h : w.cell? ⟨b, 0, none⟩ = some (.int .i64 n)) :
  Calls Tryz.prog 166 #[.int .i64 z, .pointer (some ⟨b, 0, none⟩)] w fun e w' => e = .returned (.bool (decide (StateOk n z))) ∧ w' = w := by
 by_cases hz : 0 ≤ z
 ·go_enter Tryz.func166, Tryz.ntmps166
  go_wp2
  go_ret
  exact ⟨ret_dec (by unfold StateOk; simp; omega), rfl⟩
 ·go_enter Tryz.func166, Tryz.ntmps166
  go_wp2
  go_ret
  exact ⟨ret_no (by unfold StateOk; omega), rfl⟩

set_option maxRecDepth 100000 in
set_option maxHeartbeats 1000000 in
theorem symbol_any (z : Int) (w : World) :
  Calls Tryz.prog 167 #[.int .i64 z] w fun e w' => e = .returned (.bool (decide (SymOk z))) ∧ w' = w := by
 by_cases hz : z = 0
 ·subst hz
  go_enter Tryz.func167, Tryz.ntmps167
  go_wp2
  go_ret
  exact ⟨ret_yes (.inl rfl), rfl⟩
 ·have d0 : (z == 0) = false := by simpa using hz
  by_cases h3 : 33 ≤ z
  ·go_enter Tryz.func167, Tryz.ntmps167
   go_wp2
   go_ret
   exact ⟨ret_dec (by unfold SymOk; simp; omega), rfl⟩
  ·go_enter Tryz.func167, Tryz.ntmps167
   go_wp2
   go_ret
   exact ⟨ret_no (by unfold SymOk; omega), rfl⟩
end Go.Proofs.YthachfkcgdfdfaaGreatDoor

/- Walks: the order of arcs that machine asks (machine.compare); the search by it (slices.BinarySearchFunc at arcs). -/
namespace Go.Proofs.YthachfkcgdfdfaaGreatDoor
open Go.RowKit Classical

def Small (a : Arc) : Prop := -100000 ≤ a.frm ∧ a.frm ≤ 100000 ∧ -100000 ≤ a.inp ∧ a.inp ≤ 100000 ∧ -100000 ≤ a.out ∧ a.out ≤ 100000 ∧ -100000 ≤ a.to ∧ a.to ≤ 100000
def subA (a b : Arc) : Int := orI [a.frm - b.frm, a.inp - b.inp, a.out - b.out, a.to - b.to]
theorem subA_lt (a b : Arc) : subA a b < 0 ↔ a.lt b := by
 unfold subA Arc.lt
 simp only [orI]
 split <;> (try split) <;> (try split) <;> (try split) <;> omega

set_option maxRecDepth 100000 in
set_option maxHeartbeats 1000000 in
theorem compare_any (a b : Arc) (ha : Small a) (hb : Small b) (w : World) :
  Calls Tryz.prog 161 #[.agg #[.int .i64 a.frm, .int .i64 a.inp, .int .i64 a.out, .int .i64 a.to], .agg #[.int .i64 b.frm, .int .i64 b.inp, .int .i64 b.out, .int .i64 b.to]] w
   fun e w' => e = .returned (.int .i64 (subA a b)) ∧ ∃ o1 o2 o3, w' = ((w.alloc o1).alloc o2).alloc o3 := by
 obtain ⟨x1, x2, x3, x4, x5, x6, x7, x8⟩ := ha
 obtain ⟨y1, y2, y3, y4, y5, y6, y7, y8⟩ := hb
 have e1 : IntKind.i64.wrap (a.frm - b.frm) = a.frm - b.frm := IntWalk.i64_in _ (by omega)
 have e2 : IntKind.i64.wrap (a.inp - b.inp) = a.inp - b.inp := IntWalk.i64_in _ (by omega)
 have e3 : IntKind.i64.wrap (a.out - b.out) = a.out - b.out := IntWalk.i64_in _ (by omega)
 have e4 : IntKind.i64.wrap (a.to - b.to) = a.to - b.to := IntWalk.i64_in _ (by omega)
 clear x1 x2 x3 x4 x5 x6 x7 x8 y1 y2 y3 y4 y5 y6 y7 y8
 obtain ⟨W1, hW1⟩ : ∃ W1 : World, W1 = (w.alloc (.cells #[.int .i64 a.frm, .int .i64 a.inp, .int .i64 a.out, .int .i64 a.to] 177)).alloc (.cells #[.int .i64 b.frm, .int .i64 b.inp, .int .i64 b.out, .int .i64 b.to] 177) := ⟨_, rfl⟩
 have ha : Blk W1 w.heap.size #[.int .i64 a.frm, .int .i64 a.inp, .int .i64 a.out, .int .i64 a.to] 177 := by rw [hW1]; exact (Blk.new _ _ _).alloc _
 have hb : Blk W1 (w.heap.size + 1) #[.int .i64 b.frm, .int .i64 b.inp, .int .i64 b.out, .int .i64 b.to] 177 := by
  rw [hW1]; have := Blk.new (w.alloc (.cells #[.int .i64 a.frm, .int .i64 a.inp, .int .i64 a.out, .int .i64 a.to] 177)) #[.int .i64 b.frm, .int .i64 b.inp, .int .i64 b.out, .int .i64 b.to] 177; simpa using this
 have a0 := ha.cell 0
 have a1 := ha.cell 1
 have a2 := ha.cell 2
 have a3 := ha.cell 3
 have b0 := hb.cell 0
 have b1 := hb.cell 1
 have b2 := hb.cell 2
 have b3 := hb.cell 3
 simp only [List.getElem?_toArray, List.getElem?_cons_zero, List.getElem?_cons_succ] at a0 a1 a2 a3 b0 b1 b2 b3
 have HW1 := Lib.hid hW1
 clear hW1 ha hb
 go_enter Tryz.func161, Tryz.ntmps161
 go_upto_region 1 with (fail)
 rw [← HW1.out]
 obtain ⟨c1, h1⟩ : ∃ z, a.frm - b.frm = z := ⟨_, rfl⟩
 obtain ⟨c2, h2⟩ : ∃ z, a.inp - b.inp = z := ⟨_, rfl⟩
 obtain ⟨c3, h3⟩ : ∃ z, a.out - b.out = z := ⟨_, rfl⟩
 obtain ⟨c4, h4⟩ : ∃ z, a.to - b.to = z := ⟨_, rfl⟩
 rw [h1] at e1
 rw [h2] at e2
 rw [h3] at e3
 rw [h4] at e4
 have Hc := Lib.hid (show subA a b = orI [c1, c2, c3, c4] from by rw [subA, h1, h2, h3, h4])
 have hrow : RowAt (W1.alloc (.cells (nums [c1, c2, c3, c4]).toArray 3)) (W1.heap.size + 1) (some ⟨W1.heap.size, 0, none⟩) (nums [c1, c2, c3, c4]) := fun _ =>
  ⟨_, 0, rfl, by omega, fun i x hx => by rw [Nat.zero_add]; exact Box.new W1 (nums [c1, c2, c3, c4]) 3 i x hx⟩
 have qo := Or_any [c1, c2, c3, c4] _ 4 _ (by simp [maxLen]) _ hrow
 have HQ := Lib.hid qo
 clear qo hrow
 go_wp2_with fail
 clear a0 a1 a2 a3 b0 b1 b2 b3
 refine HQ.out.mono ?_
 rintro e w2 ⟨rfl, hw2⟩
 have Hw2 := Lib.hid hw2
 clear hw2 h1 h2 h3 h4 e1 e2 e3 e4
 go_wp2_with fail
 go_ret
 exact ⟨ret_int Hc.out.symm, _, _, _, by rw [Hw2.out, HW1.out]⟩

theorem compare_below (a b : Arc) (ha : Small a) (hb : Small b) (w : World) :
  Calls Tryz.prog 161 #[.agg #[.int .i64 a.frm, .int .i64 a.inp, .int .i64 a.out, .int .i64 a.to], .agg #[.int .i64 b.frm, .int .i64 b.inp, .int .i64 b.out, .int .i64 b.to]] w
   fun e w' => e = .returned (.int .i64 (subA a b)) ∧ Below w.heap.size w w' := by
 refine (compare_any a b ha hb w).mono ?_
 rintro e w' ⟨rfl, o1, o2, o3, rfl⟩
 exact ⟨rfl, (((Below.refl _ _).alloc (Nat.le_refl _) _).alloc (by simp) _).alloc (by simp; omega) _⟩

theorem small_of {n : Int} {a : Arc} (hn : n ≤ 4000) (h : StateOk n a.frm ∧ StateOk n a.to ∧ SymOk a.inp ∧ SymOk a.out) : Small a := by
 obtain ⟨⟨h1, h2⟩, ⟨h3, h4⟩, h5, h6⟩ := h
 unfold SymOk at h5 h6
 unfold Small
 omega

theorem inc_lt {l : List Arc} (hinc : Increasing l) {t : Arc} {i j : Nat} {a b : Arc} (hij : i ≤ j) (hi : l[i]? = some a) (hj : l[j]? = some b) (h : b.lt t) : a.lt t := by
 rcases Nat.eq_or_lt_of_le hij with rfl | h'
 ·rw [hi] at hj; cases hj; exact h
 ·obtain ⟨h1, e1⟩ := List.getElem?_eq_some_iff.1 hi
  obtain ⟨h2, e2⟩ := List.getElem?_eq_some_iff.1 hj
  have := List.pairwise_iff_getElem.1 hinc i j h1 h2 h'
  rw [e1, e2] at this
  exact Arc.lt_trans this h

set_option maxRecDepth 100000 in
set_option maxHeartbeats 4000000 in
theorem bsf_any (l : List Arc) (T : Arc) (aa : Option Addr) (ac : Nat) (hl : l.length ≤ 20000) (hsm : ∀ a ∈ l, Small a) (hT : Small T) (hinc : Increasing l) (w : World) (h : RowAt w w.heap.size aa (flat l)) :
  Calls Tryz.prog 213 #[.slice aa l.length ac, .agg #[.int .i64 T.frm, .int .i64 T.inp, .int .i64 T.out, .int .i64 T.to], .func (.func 161) #[] #[]] w
   fun e w' => ∃ (lo : Nat) (f : Bool), e = .returned (.tuple #[.int .i64 lo, .bool f]) ∧ lo ≤ l.length ∧ (∀ t a, t < lo → l[t]? = some a → a.lt T) ∧ (∀ t a, lo ≤ t → l[t]? = some a → ¬ a.lt T) ∧ Below w.heap.size w w' := by
 obtain ⟨W0, hW0⟩ : ∃ W0 : World, W0 = w.alloc (.cells #[.int .i64 T.frm, .int .i64 T.inp, .int .i64 T.out, .int .i64 T.to] 177) := ⟨_, rfl⟩
 have hw0 : Below w.heap.size w W0 := by rw [hW0]; exact (Below.refl _ _).alloc (Nat.le_refl _) _
 have hB0 : Blk W0 w.heap.size #[.int .i64 T.frm, .int .i64 T.inp, .int .i64 T.out, .int .i64 T.to] 177 := by rw [hW0]; exact Blk.new _ _ _
 have hlt0 := hB0.lt
 have HB0 := Lib.hid (fun (wr : World) (hbw : Below W0.heap.size W0 wr) => hB0.below hbw hlt0)
 have HC := Lib.hid (fun (wr : World) (hbw : Below W0.heap.size W0 wr) (k : Nat) (hk : k < l.length) => by
  obtain ⟨b, off, e, hb, hc⟩ := h.arcs (by omega)
  have hx := hw0.trans (hbw.mono hw0.size)
  exact (⟨b, off, e, (hx.cell (p := ⟨b, off + k * 4, none⟩) hb).trans (hc k hk).1, (hx.cell (p := ⟨b, off + k * 4 + 1, none⟩) hb).trans (hc k hk).2.1,
   (hx.cell (p := ⟨b, off + k * 4 + 2, none⟩) hb).trans (hc k hk).2.2.1, (hx.cell (p := ⟨b, off + k * 4 + 3, none⟩) hb).trans (hc k hk).2.2.2⟩ :
   ∃ b off, aa = some ⟨b, off, none⟩ ∧ wr.cell? ⟨b, off + k * 4, none⟩ = some (.int .i64 l[k].frm) ∧ wr.cell? ⟨b, off + k * 4 + 1, none⟩ = some (.int .i64 l[k].inp) ∧ wr.cell? ⟨b, off + k * 4 + 2, none⟩ = some (.int .i64 l[k].out) ∧ wr.cell? ⟨b, off + k * 4 + 3, none⟩ = some (.int .i64 l[k].to)))
 have HW0 := Lib.hid (And.intro hW0 hw0)
 have HI := Lib.hid (And.intro hinc hsm)
 clear hW0 hw0 hB0 hinc hsm h
 go_enter Tryz.func213, Tryz.ntmps213
 go_wp2_with fail
 rw [← HW0.out.1]
 go_loopw [9, 10] (fun i j wr => ∃ lo hi : Nat, i = .int .i64 lo ∧ j = .int .i64 hi ∧ lo ≤ hi ∧ hi ≤ l.length ∧ (∀ t a, t < lo → l[t]? = some a → a.lt T) ∧ (∀ t a, hi ≤ t → l[t]? = some a → ¬ a.lt T) ∧ Below W0.heap.size W0 wr) (fun i j _ => (intOf j).toNat - (intOf i).toNat)
 case atStart => exact ⟨0, l.length, rfl, rfl, Nat.zero_le _, Nat.le_refl _, fun t a ht => absurd ht (Nat.not_lt_zero _), fun t a ht hta => by have := (List.getElem?_eq_some_iff.1 hta).1; omega, Below.refl _ _⟩
 case round =>
  obtain ⟨lo, hi, rfl, rfl, hlh, hhl, hlo, hhi, hbw⟩ := hrel
  have HL := Lib.hid (And.intro hlo hhi)
  clear hlo hhi
  have hb0 := HB0.out wr hbw
  have t0 := hb0.cell 0
  have t1 := hb0.cell 1
  have t2 := hb0.cell 2
  have t3 := hb0.cell 3
  simp only [List.getElem?_toArray, List.getElem?_cons_zero, List.getElem?_cons_succ] at t0 t1 t2 t3
  clear hb0
  by_cases hlt : lo < hi
  ·obtain ⟨h, hh⟩ : ∃ h, (lo + hi) / 2 = h := ⟨_, rfl⟩
   have hm1 : h < l.length := by omega
   have hhi : ((lo : Int) + (hi : Int)) / 2 = (h : Int) := by omega
   have hlh' : lo ≤ h ∧ h < hi := by omega
   obtain ⟨b, off, rfl, x0, x1, x2, x3⟩ := HC.out wr hbw h hm1
   obtain ⟨x, hxe⟩ : ∃ x, x = l[h] := ⟨_, rfl⟩
   rw [← hxe] at x0 x1 x2 x3
   have Hxe := Lib.hid (show l[h]? = some x by rw [hxe]; exact List.getElem?_eq_getElem hm1)
   have hsx : Small x := HI.out.2 x (List.mem_of_getElem? Hxe.out)
   have Hhi := Lib.hid hhi
   clear hxe hhi hh
   go_upto_region 5 with (fail)
   rw [Hhi.out]
   refine wp_region_still_tail 6 (by kernel_rfl) (by kernel_rfl) ?_
   simp only [List.take_succ_cons, List.take_zero, List.drop_succ_cons, List.drop_zero]
   repeat still_step
   refine wpStill_nil ?_
   change wpList _ _ _ _ _ wr.drew
   clear x0 x1 x2 x3 t0 t1 t2 t3 hlh
   obtain ⟨wk, hwk⟩ : ∃ wk, wr.drew = wk := ⟨_, rfl⟩
   have hbk : Below W0.heap.size W0 wk := by rw [← hwk]; exact hbw.drew
   rw [hwk]
   clear hwk hbw
   by_cases hx : x.lt T
   ·have hd : decide (subA x T < 0) = true := decide_eq_true ((subA_lt x T).2 hx)
    obtain ⟨z, hz⟩ : ∃ z, subA x T = z := ⟨_, rfl⟩
    have HQ := compare_below x T hsx hT wk
    rw [hz] at HQ hd
    have HQ := Lib.hid HQ
    have Hx := Lib.hid hx
    clear hz hx
    go_wp2_with (go_at_call 161; refine HQ.out.mono ?_; rintro e w1 ⟨rfl, hb1⟩)
    have hb1' := hbk.trans (hb1.mono hbk.size)
    refine ⟨⟨h + 1, hi, by go_num, rfl, by omega, hhl, fun t a ht hta => ?_, HL.out.2, hb1'⟩, by simp [intOf]; omega⟩
    exact inc_lt HI.out.1 (by omega : t ≤ h) hta Hxe.out Hx.out
   ·have hd : decide (subA x T < 0) = false := decide_eq_false (fun h => hx ((subA_lt x T).1 h))
    obtain ⟨z, hz⟩ : ∃ z, subA x T = z := ⟨_, rfl⟩
    have HQ := compare_below x T hsx hT wk
    rw [hz] at HQ hd
    have HQ := Lib.hid HQ
    have Hx := Lib.hid hx
    clear hz hx
    go_wp2_with (go_at_call 161; refine HQ.out.mono ?_; rintro e w1 ⟨rfl, hb1⟩)
    have hb1' := hbk.trans (hb1.mono hbk.size)
    refine ⟨⟨lo, h, rfl, rfl, by omega, by omega, HL.out.1, fun t a ht hta hat => Hx.out (inc_lt HI.out.1 ht Hxe.out hta hat), hb1'⟩, by simp [intOf]; omega⟩
  ·obtain rfl : lo = hi := by omega
   have hbW := HW0.out.2.trans (hbw.mono HW0.out.2.size)
   by_cases hn : lo < l.length
   ·obtain ⟨b, off, rfl, x0, x1, x2, x3⟩ := HC.out wr hbw lo hn
    obtain ⟨x, hxe⟩ : ∃ x, x = l[lo] := ⟨_, rfl⟩
    rw [← hxe] at x0 x1 x2 x3
    have hsx : Small x := HI.out.2 x (by rw [hxe]; exact List.getElem_mem hn)
    have HY := Lib.hid (fun (w1 : World) (hb : Below W0.heap.size W0 w1) => by
     obtain ⟨b', off', e', y0, y1, y2, y3⟩ := HC.out w1 hb lo hn
     cases e'
     rw [← hxe] at y0 y1 y2 y3
     exact (⟨y0, y1, y2, y3, (HB0.out w1 hb).cell 0, (HB0.out w1 hb).cell 1, (HB0.out w1 hb).cell 2, (HB0.out w1 hb).cell 3⟩ :
      w1.cell? ⟨b, off + lo * 4, none⟩ = some (.int .i64 x.frm) ∧ w1.cell? ⟨b, off + lo * 4 + 1, none⟩ = some (.int .i64 x.inp) ∧ w1.cell? ⟨b, off + lo * 4 + 2, none⟩ = some (.int .i64 x.out) ∧ w1.cell? ⟨b, off + lo * 4 + 3, none⟩ = some (.int .i64 x.to) ∧
       w1.cell? ⟨w.heap.size, 0, none⟩ = some (.int .i64 T.frm) ∧ w1.cell? ⟨w.heap.size, 1, none⟩ = some (.int .i64 T.inp) ∧ w1.cell? ⟨w.heap.size, 2, none⟩ = some (.int .i64 T.out) ∧ w1.cell? ⟨w.heap.size, 3, none⟩ = some (.int .i64 T.to)))
    clear hxe
    obtain ⟨wk, rfl⟩ : ∃ wk : World, wk = wr := ⟨_, rfl⟩
    go_upto_region 8 with (fail)
    go_cut [6, 7] (fun p q wx => p = .int .i64 lo ∧ (∃ f : Bool, q = .bool f) ∧ Below wk.heap.size wk wx)
    case first =>
     go_region_held3 (fun w' => w'.cell? ⟨b, off + lo * 4, none⟩ = some (.int .i64 x.frm) ∧ w'.cell? ⟨b, off + lo * 4 + 1, none⟩ = some (.int .i64 x.inp) ∧ w'.cell? ⟨b, off + lo * 4 + 2, none⟩ = some (.int .i64 x.out) ∧ w'.cell? ⟨b, off + lo * 4 + 3, none⟩ = some (.int .i64 x.to) ∧
       w'.cell? ⟨w.heap.size, 0, none⟩ = some (.int .i64 T.frm) ∧ w'.cell? ⟨w.heap.size, 1, none⟩ = some (.int .i64 T.inp) ∧ w'.cell? ⟨w.heap.size, 2, none⟩ = some (.int .i64 T.out) ∧ w'.cell? ⟨w.heap.size, 3, none⟩ = some (.int .i64 T.to))
      (first | exact ⟨x0, x1, x2, x3, t0, t1, t2, t3⟩ | exact ⟨y0, y1, y2, y3, z0, z1, z2, z3⟩ | go_keep)
      (first | (go_at_call 161; refine (compare_below x T hsx hT _).mono ?_; rintro e w1 ⟨rfl, hb1⟩; have hb1' := hbw.drew.trans (hb1.mono hbw.size); obtain ⟨y0, y1, y2, y3, z0, z1, z2, z3⟩ := HY.out w1 hb1'))
     all_goals go_wp2_with fail
     all_goals go_meet
     all_goals exact ⟨rfl, ⟨_, rfl⟩, (Below.refl _ wk).drew.trans hb1⟩
    case rest =>
     obtain ⟨rfl, ⟨f, rfl⟩, hbc⟩ := hcut
     go_wp2_with fail
     go_ret2
     exact ⟨lo, f, rfl, hhl, HL.out.1, HL.out.2, hbW.trans (hbc.mono hbW.size)⟩
   ·obtain rfl : lo = l.length := by omega
    have hd : decide ((l.length : Int) < (l.length : Int)) = false := decide_eq_false (by omega)
    go_upto_region 8 with (fail)
    go_quiet (fail)
    go_wp2_with fail
    go_ret2
    exact ⟨l.length, false, rfl, Nat.le_refl _, HL.out.1, HL.out.2, Go.below_drewN hbW _⟩
end Go.Proofs.YthachfkcgdfdfaaGreatDoor
