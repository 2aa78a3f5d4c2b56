/- A3 · A4 -/
import Derived.Test.YtabocamjaecaaaaGreatDoorGM
import Derived.Test.YtabocamjaecaaaaGreatDoorGB
/- Walks: whether a text is a name (alphabet.named, rules.isName). -/
namespace Go.Proofs.YtabocamjaecaaaaGreatDoor
open Go.RowKit Classical

set_option maxRecDepth 100000 in
set_option maxHeartbeats 1000000 in
theorem named_any (s : ByteArray) (hs : s.size ≤ maxLen) (w : World) :
  Calls Tryz.prog 60 #[.string s] w fun e w' => e = .returned (.bool (nameB (bl s))) ∧ Below w.heap.size w w' := by
 go_enter Tryz.func60, Tryz.ntmps60
 go_wp2_with fail
 refine (Lex_any s hs w).mono ?_
 rintro e w1 ⟨va, c, err, off, T, rfl, hT, hrow, hnm, hb⟩
 have Hnm := Lib.hid hnm
 clear hnm
 by_cases he : err = 0
 ·subst he
  by_cases h1 : T.length = 1
  ·obtain ⟨t, rfl⟩ : ∃ t, T = [t] := by
    cases T with
    | nil => simp at h1
    | cons t r => cases r with
     | nil => exact ⟨t, rfl⟩
     | cons a b => simp at h1
   obtain ⟨b, o, rfl, _, hc⟩ := hrow (by simp [flatT, Tok.cells, tokCells])
   have c0 := hc 0 (.int .i64 t.kind) (by simp [flatT, Tok.cells, tokCells])
   have c3 := hc 3 (.string t.text) (by simp [flatT, Tok.cells, tokCells])
   have c0' : w1.cell? ⟨b, o, none⟩ = some (.int .i64 t.kind) := c0
   clear hc h1 hT hrow
   by_cases hk : t.kind = 1
   ·have d1 : (t.kind == 1) = true := by simp [hk]
    by_cases ht : t.text = s
    ·have d2 : (t.text.toList == s.toList) = true := by rw [ht]; simp
     have Hk := Lib.hid (And.intro hk ht)
     clear hk ht
     go_wp2_with fail
     go_ret
     refine ⟨ret_bool ?_, hb⟩
     rw [eq_comm, Hnm.out]
     exact ⟨by trivial, t, rfl, Hk.out.1, Hk.out.2⟩
    ·have d2 : (t.text.toList == s.toList) = false := by
      rw [ByteArray.toList_eq, ByteArray.toList_eq, beq_eq_false_iff_ne]; exact fun e => ht (bl_inj e)
     have Hk := Lib.hid ht
     clear hk ht
     go_wp2_with fail
     go_ret
     refine ⟨ret_bool ?_, hb⟩
     rw [eq_comm, ← Bool.not_eq_true, Hnm.out]
     rintro ⟨_, t', e, _, h2⟩
     obtain rfl : t = t' := by simpa using e
     exact Hk.out h2
   ·have d1 : (t.kind == 1) = false := by simpa using hk
    have Hk := Lib.hid hk
    clear hk
    go_wp2_with fail
    go_ret
    refine ⟨ret_bool ?_, hb⟩
    rw [eq_comm, ← Bool.not_eq_true, Hnm.out]
    rintro ⟨_, t', e, h2, _⟩
    obtain rfl : t = t' := by simpa using e
    exact Hk.out h2
  ·have d1 : ((T.length : Int) == 1) = false := by simp; omega
   have H1 := Lib.hid h1
   clear h1
   go_wp2_with fail
   go_ret
   refine ⟨ret_bool ?_, hb⟩
   rw [eq_comm, ← Bool.not_eq_true, Hnm.out]
   rintro ⟨_, t, rfl, _⟩
   exact H1.out rfl
 ·have d1 : (err == 0) = false := by simpa using he
  have He := Lib.hid he
  clear he
  go_wp2_with fail
  go_ret
  refine ⟨ret_bool ?_, hb⟩
  rw [eq_comm, ← Bool.not_eq_true, Hnm.out]
  exact fun h => He.out h.1

set_option maxRecDepth 100000 in
set_option maxHeartbeats 1000000 in
theorem isName_any (s : ByteArray) (hs : s.size ≤ maxLen) (w : World) :
  Calls Tryz.prog 86 #[.string s] w fun e w' => e = .returned (.bool (nameB (bl s))) ∧ Below w.heap.size w w' := by
 go_enter Tryz.func86, Tryz.ntmps86
 go_wp2_with fail
 refine (Lex_any s hs w).mono ?_
 rintro e w1 ⟨va, c, err, off, T, rfl, hT, hrow, hnm, hb⟩
 have Hnm := Lib.hid hnm
 clear hnm
 by_cases he : err = 0
 ·subst he
  by_cases h1 : T.length = 1
  ·obtain ⟨t, rfl⟩ : ∃ t, T = [t] := by
    cases T with
    | nil => simp at h1
    | cons t r => cases r with
     | nil => exact ⟨t, rfl⟩
     | cons a b => simp at h1
   obtain ⟨b, o, rfl, _, hc⟩ := hrow (by simp [flatT, Tok.cells, tokCells])
   have c0 := hc 0 (.int .i64 t.kind) (by simp [flatT, Tok.cells, tokCells])
   have c3 := hc 3 (.string t.text) (by simp [flatT, Tok.cells, tokCells])
   have c0' : w1.cell? ⟨b, o, none⟩ = some (.int .i64 t.kind) := c0
   clear hc h1 hT hrow
   by_cases hk : t.kind = 1
   ·have d1 : (t.kind == 1) = true := by simp [hk]
    by_cases ht : t.text = s
    ·have d2 : (t.text.toList == s.toList) = true := by rw [ht]; simp
     have Hk := Lib.hid (And.intro hk ht)
     clear hk ht
     go_wp2_with fail
     go_ret
     refine ⟨ret_bool ?_, hb⟩
     rw [eq_comm, Hnm.out]
     exact ⟨by trivial, t, rfl, Hk.out.1, Hk.out.2⟩
    ·have d2 : (t.text.toList == s.toList) = false := by
      rw [ByteArray.toList_eq, ByteArray.toList_eq, beq_eq_false_iff_ne]; exact fun e => ht (bl_inj e)
     have Hk := Lib.hid ht
     clear hk ht
     go_wp2_with fail
     go_ret
     refine ⟨ret_bool ?_, hb⟩
     rw [eq_comm, ← Bool.not_eq_true, Hnm.out]
     rintro ⟨_, t', e, _, h2⟩
     obtain rfl : t = t' := by simpa using e
     exact Hk.out h2
   ·have d1 : (t.kind == 1) = false := by simpa using hk
    have Hk := Lib.hid hk
    clear hk
    go_wp2_with fail
    go_ret
    refine ⟨ret_bool ?_, hb⟩
    rw [eq_comm, ← Bool.not_eq_true, Hnm.out]
    rintro ⟨_, t', e, h2, _⟩
    obtain rfl : t = t' := by simpa using e
    exact Hk.out h2
  ·have d1 : ((T.length : Int) == 1) = false := by simp; omega
   have H1 := Lib.hid h1
   clear h1
   go_wp2_with fail
   go_ret
   refine ⟨ret_bool ?_, hb⟩
   rw [eq_comm, ← Bool.not_eq_true, Hnm.out]
   rintro ⟨_, t, rfl, _⟩
   exact H1.out rfl
 ·have d1 : (err == 0) = false := by simpa using he
  have He := Lib.hid he
  clear he
  go_wp2_with fail
  go_ret
  refine ⟨ret_bool ?_, hb⟩
  rw [eq_comm, ← Bool.not_eq_true, Hnm.out]
  exact fun h => He.out h.1

end Go.Proofs.YtabocamjaecaaaaGreatDoor

/- Walk: the alphabet's map of letters (alphabet.places). -/
namespace Go.Proofs.YtabocamjaecaaaaGreatDoor
open Go.RowKit Classical

/-- The pairs of a map from letters to their places. -/
def pairs (l : List ByteArray) : List (Value × Value) := l.zipIdx.map fun p => (.string p.1, .int .i64 (p.2 : Int))
theorem pairs_snoc (l : List ByteArray) (k : Nat) (h : k < l.length) : pairs (l.take (k + 1)) = pairs (l.take k) ++ [(.string l[k], .int .i64 (k : Int))] := by
 have : l.take (k + 1) = l.take k ++ [l[k]] := by rw [List.take_succ_eq_append_getElem h]
 rw [this, pairs, pairs, List.zipIdx_append, List.map_append]
 simp [List.length_take, Nat.min_eq_left (Nat.le_of_lt h)]
theorem mem_pairs {l : List ByteArray} {p : Value × Value} : p ∈ pairs l ↔ ∃ (i : Nat) (s : ByteArray), l[i]? = some s ∧ p = (.string s, .int .i64 (i : Int)) := by
 unfold pairs
 rw [List.mem_map]
 constructor
 ·rintro ⟨⟨s, i⟩, hm, rfl⟩
  rw [List.mem_zipIdx_iff_getElem?] at hm
  exact ⟨i, s, hm, rfl⟩
 ·rintro ⟨i, s, hi, rfl⟩
  exact ⟨(s, i), by rw [List.mem_zipIdx_iff_getElem?]; exact hi, rfl⟩

theorem zero_int (w : World) : (zeroValue 3).run Tryz.prog w = .ok (.int .i64 0) w := by kernel_rfl
theorem zero_bool (w : World) : (zeroValue 4).run Tryz.prog w = .ok (.bool false) w := by kernel_rfl

theorem look_pair_none {w : World} {b : Nat} {l : List ByteArray} (h : MapIs w b OkStr (pairs l)) {s : ByteArray} (hno : s ∉ l) :
  (Instr.lookup 92 (.map (some b)) (.string s) true).run Tryz.prog w = .ok (.tuple #[.int .i64 0, .bool false]) w := by
 have := h.look_none keyStr Tryz.underlying92 (zero_int w) (okStr s) (fun p hp he => by
  obtain ⟨i, t, hi, rfl⟩ := mem_pairs.1 hp
  have : t = s := by simpa using he
  subst this
  exact hno (List.mem_of_getElem? hi)) true
 simpa using this
theorem look_pair_some {w : World} {b : Nat} {l : List ByteArray} (h : MapIs w b OkStr (pairs l)) {s : ByteArray} {i : Nat} (hi : l[i]? = some s) :
  (Instr.lookup 92 (.map (some b)) (.string s) true).run Tryz.prog w = .ok (.tuple #[.int .i64 (i : Int), .bool true]) w := by
 have := h.look_some (t := 92) keyStr Tryz.underlying92 (mem_pairs.2 ⟨i, s, hi, rfl⟩) true
 simpa using this

def PlacesPost (A : Alph) (w : World) (e : Ending) (w' : World) : Prop :=
 ∃ m, e = .returned (.tuple #[m, .bool (decide (Formed10 A))]) ∧ (Formed10 A → ∃ b, m = .map (some b) ∧ w.heap.size ≤ b ∧ MapIs w' b OkStr (pairs A.letters)) ∧ Below w.heap.size w w'
theorem places_no {A : Alph} {w w' : World} (h : ¬ Formed10 A) (hb : Below w.heap.size w w') : PlacesPost A w (.returned (.tuple #[.map none, .bool false])) w' :=
 ⟨.map none, by rw [decide_eq_false h], fun hf => absurd hf h, hb⟩
theorem places_yes {A : Alph} {w w' : World} {b : Nat} (h : Formed10 A) (hbb : w.heap.size ≤ b) (hm : MapIs w' b OkStr (pairs A.letters)) (hb : Below w.heap.size w w') : PlacesPost A w (.returned (.tuple #[.map (some b), .bool true])) w' :=
 ⟨.map (some b), by rw [decide_eq_true h], fun _ => ⟨b, rfl, hbb, hm⟩, hb⟩

set_option maxRecDepth 100000 in
set_option maxHeartbeats 2000000 in
theorem places_any (A : Alph) (v : Value) (w : World) (h : AlphAt w w.heap.size v A) :
  Calls Tryz.prog 37 #[v] w (PlacesPost A w) := by
 have hA := h
 obtain ⟨la, lc, sa, sc, rfl, hn, hl1, hs1, hls, hl, hsm⟩ := h
 have hn2 := hn
 have hmm := @run_makeMap Tryz.prog
 unfold maxLen at hl1 hs1 hn
 go_enter Tryz.func37, Tryz.ntmps37
 go_wp2_with fail
 obtain ⟨W0, hW0⟩ : ∃ W0 : World, W0 = (w.alloc (.cells #[.string A.name, .slice la A.letters.length lc, .slice sa A.small.length sc] 28)) := ⟨_, rfl⟩
 rw [← hW0]
 have hw0 : Below w.heap.size w W0 := by rw [hW0]; exact (Below.refl _ _).alloc (Nat.le_refl _) _
 have hsz : W0.heap.size = w.heap.size + 1 := by rw [hW0]; simp
 have hbx : Box W0 w.heap.size [.string A.name, .slice la A.letters.length lc, .slice sa A.small.length sc] := by rw [hW0]; exact Box.new _ _ _
 clear hW0
 refine (named_any A.name hn2 _).mono ?_
 rintro e w1 ⟨rfl, hb1⟩
 have hb1w := hw0.trans (hb1.mono hw0.size)
 have hbx1 := hbx.below hb1 (by omega)
 have hl' := hl.below hb1w (Nat.le_refl _)
 have hsm' := hsm.below hb1w (Nat.le_refl _)
 have hs1w := hb1.size
 clear hbx hl hsm hb1 hw0
 have c1 : w1.cell? ⟨w.heap.size, 1, none⟩ = some (.slice la A.letters.length lc) := hbx1 1 _ rfl
 have c2 : w1.cell? ⟨w.heap.size, 2, none⟩ = some (.slice sa A.small.length sc) := hbx1 2 _ rfl
 by_cases hname : nameB (bl A.name) = true
 ·by_cases hlen : (1 ≤ A.letters.length ∧ A.letters.length ≤ 64) ∧ A.small.length = A.letters.length
  ·obtain ⟨⟨hn1, hn64⟩, hsl⟩ := hlen
   have hq : ((A.small.length : Int) != A.letters.length) = false := by simp [hsl]
   have hsll : A.small.length ≤ A.letters.length ∧ A.letters.length ≤ A.small.length := by omega
   rw [hname]
   have Hsl := Lib.hid hsl; have Hname := Lib.hid hname
   have c1m : (w1.alloc (.map #[] 0)).cell? ⟨w.heap.size, 1, none⟩ = some (.slice la A.letters.length lc) := (hbx1.alloc (by omega) (.map #[] 0)) 1 _ rfl
   clear hsl hname
   go_wp2_with fail
   clear c1m
   obtain ⟨b, off, rfl, hb, hc⟩ := hl'.strs (by omega)
   obtain ⟨b', off', rfl, hb', hc'⟩ := hsm'.nums (by omega)
   have hM0 : MapIs (w1.alloc (.map #[] 0)) w1.heap.size OkStr (pairs (A.letters.take 0)) := MapIs.made w1 OkStr
   have hB0 : Below w1.heap.size w1 (w1.alloc (.map #[] 0)) := (Below.refl _ _).alloc (Nat.le_refl _) _
   generalize w1.alloc (.map #[] 0) = W2 at hM0 hB0 ⊢
   have Hc := Lib.hid (fun (wr : World) (hbr : Below w1.heap.size w1 wr) i (hi : i < A.letters.length) => (hbr.cell (p := ⟨b, off + i, none⟩) (by show b < w1.heap.size; omega)).trans (hc i hi))
   have Hc' := Lib.hid (fun (wr : World) (hbr : Below w1.heap.size w1 wr) i (hi : i < A.small.length) => (hbr.cell (p := ⟨b', off' + i, none⟩) (by show b' < w1.heap.size; omega)).trans (hc' i hi))
   have Hbx := Lib.hid (fun (wr : World) (hbr : Below w1.heap.size w1 wr) => (hbx1.below hbr (by omega)).c3)
   have hM0' := Lib.hid hM0
   clear hc hc' hbx1 c1 c2 hM0
   go_loopw [38] (fun i wr => ∃ k : Nat, k ≤ A.letters.length ∧ i = .int .i64 k ∧ (∀ (a : Nat) l, a < k → A.letters[a]? = some l → Plain11 l 1 3) ∧ (A.letters.take k).Nodup ∧ MapIs wr w1.heap.size OkStr (pairs (A.letters.take k)) ∧ Below w1.heap.size w1 wr) (fun i _ => A.letters.length - (intOf i).toNat)
   case atStart => exact ⟨0, Nat.zero_le _, rfl, by simp, by simp, hM0'.out, hB0⟩
   case round =>
    obtain ⟨k, hk, rfl, hpl, hnd, hM, hbr⟩ := hrel
    have Hpl := Lib.hid hpl
    have Hnd := Lib.hid hnd
    have HM := Lib.hid hM
    have hwr := hb1w.trans (hbr.mono hb1w.size)
    clear hpl hnd hM
    by_cases hlt : k < A.letters.length
    ·have c3 := Hc.out wr hbr k hlt
     have hls' := hls _ (List.getElem_mem hlt)
     by_cases htw : A.letters[k] ∈ A.letters.take k
     ·obtain ⟨i, hi⟩ := List.getElem?_of_mem htw
      have hlk := look_pair_some HM.out hi
      have Hbad := Lib.hid (show ¬ Formed10 A from fun hf => by
       have hnd := hf.2.2.2.2.2.2.1
       obtain ⟨j, hj, hje⟩ := List.getElem_of_mem htw
       rw [List.length_take] at hj
       rw [List.getElem_take] at hje
       have := (List.getElem_inj hnd).1 hje
       omega)
      clear htw hi
      go_wp2_with fail
      go_ret2
      exact places_no Hbad.out hwr
     ·have hlk := look_pair_none HM.out htw
      by_cases hp : Plain11 A.letters[k] 1 3
      ·obtain ⟨w4, hrun, hM4, hg4, hs4⟩ := HM.out.put_new keyStr Tryz.underlying92 (okStr A.letters[k]) (fun p hp he => by
        obtain ⟨i, t, hi, rfl⟩ := mem_pairs.1 hp
        have : t = A.letters[k] := by simpa using he
        subst this
        exact htw (List.mem_of_getElem? hi)) (.int .i64 (k : Int))
       have Hnew := Lib.hid (And.intro htw (And.intro hp hM4))
       have hbr4 := hbr.grown hg4 hbr.size (fun j hj => by cases hj; exact Nat.le_refl _)
       have hprint := printed_any A.letters[k] wr hls'
       rw [decide_eq_true hp] at hprint
       clear htw hp hM4 hg4 hs4
       go_wp2_with (go_at_call 61; refine hprint.mono ?_; rintro e w' ⟨rfl, rfl⟩)
       refine ⟨⟨k + 1, by omega, by go_num, fun a l ha hl => ?_, ?_, ?_, hbr4⟩, by simp [intOf]; omega⟩
       ·rcases Nat.lt_succ_iff_lt_or_eq.1 ha with h | rfl
        ·exact Hpl.out a l h hl
        ·rw [List.getElem?_eq_getElem hlt] at hl; obtain rfl := Option.some.inj hl; exact Hnew.out.2.1
       ·rw [List.take_succ_eq_append_getElem hlt]
        refine List.nodup_append.2 ⟨Hnd.out, by simp, fun x hx y hy e => ?_⟩
        have : y = A.letters[k] := by simpa using hy
        subst this; subst e
        exact Hnew.out.1 hx
       ·rw [pairs_snoc _ _ hlt]; exact Hnew.out.2.2
      ·have hprint := printed_any A.letters[k] wr hls'
       rw [decide_eq_false hp] at hprint
       have Hbad := Lib.hid (show ¬ Formed10 A from fun hf => hp (by
        have := hf.2.2.2.2.1 _ (List.getElem_mem hlt)
        exact ⟨this.2.2, this.1, this.2.1⟩))
       clear htw hp
       go_wp2_with (go_at_call 61; refine hprint.mono ?_; rintro e w' ⟨rfl, rfl⟩)
       go_ret2
       exact places_no Hbad.out hwr
    ·obtain ⟨r0, r1, r2⟩ := Hbx.out wr hbr
     obtain rfl : k = A.letters.length := by omega
     clear r0 r1 hmm
     go_wp2_with fail
     go_loop [62] (fun i => ∃ j : Nat, j ≤ A.small.length ∧ i = .int .i64 j ∧ (∀ (a : Nat) z, a < j → A.small[a]? = some z → 0 ≤ z ∧ z < A.letters.length ∧ A.small[z.toNat]? = some z)) (fun i => A.small.length - (intOf i).toNat)
     case atStart => exact ⟨0, Nat.zero_le _, rfl, by simp⟩
     case round =>
      obtain ⟨j, hj, rfl, hz⟩ := hrel
      have Hz := Lib.hid hz
      clear hz
      by_cases hjl : j < A.small.length
      ·have c5 := Hc'.out wr hbr j hjl
       have hbadz : (¬ (0 ≤ A.small[j] ∧ A.small[j] < A.letters.length ∧ A.small[A.small[j].toNat]? = some A.small[j])) → ¬ Formed10 A := fun hne hf => hne
        ⟨(hf.2.2.2.2.2.1 _ (List.getElem_mem hjl)).1, (hf.2.2.2.2.2.1 _ (List.getElem_mem hjl)).2, hf.2.2.2.2.2.2.2 j _ (List.getElem?_eq_getElem hjl)⟩
       have Hbadz := Lib.hid hbadz
       clear hbadz
       by_cases hr : 0 ≤ A.small[j] ∧ A.small[j] < A.letters.length
       ·obtain ⟨hr0, hr1⟩ := hr
        obtain ⟨m, hm⟩ : ∃ m : Nat, A.small[j] = (m : Int) := ⟨A.small[j].toNat, by omega⟩
        have hml : m < A.small.length := by omega
        have c6 := Hc'.out wr hbr m hml
        have Hr := Lib.hid (And.intro hr0 hr1)
        rw [hm] at c5
        have Hm := Lib.hid hm
        have hmn : m < A.letters.length := by omega
        clear hr0 hr1 hm
        by_cases hr2 : 0 ≤ A.small[m] ∧ A.small[m] < A.letters.length
        ·obtain ⟨hs0, hs1⟩ := hr2
         by_cases he : A.small[m] = (m : Int)
         ·have d1 : (A.small[m] != (m : Int)) = false := by simp [he]
          have He := Lib.hid he
          clear he
          go_wp2_with fail
          refine ⟨⟨j + 1, by omega, by go_num, fun a z ha hz => ?_⟩, by simp [intOf]; omega⟩
          rcases Nat.lt_succ_iff_lt_or_eq.1 ha with h | rfl
          ·exact Hz.out a z h hz
          ·rw [List.getElem?_eq_getElem hjl] at hz
           obtain rfl := Option.some.inj hz
           refine ⟨Hr.out.1, Hr.out.2, ?_⟩
           rw [Hm.out, Int.toNat_natCast, List.getElem?_eq_getElem hml, He.out]
         ·have d1 : (A.small[m] != (m : Int)) = true := by simp [he]
          have Hbad := Lib.hid (Hbadz.out (fun hc => he (by
           have := hc.2.2
           rw [Hm.out, Int.toNat_natCast, List.getElem?_eq_getElem hml] at this
           exact Option.some.inj this)))
          clear he
          go_wp2_with fail
          go_ret2
          exact places_no Hbad.out hwr
        ·have Hbad := Lib.hid (show ¬ Formed10 A from fun hf => hr2 (hf.2.2.2.2.2.1 _ (List.getElem_mem hml)))
         by_cases hs0 : 0 ≤ A.small[m]
         ·have hs1 : (A.letters.length : Int) ≤ A.small[m] := by omega
          clear hr2
          go_wp2_with fail
          go_ret2
          exact places_no Hbad.out hwr
         ·clear hr2
          have hs1 : A.small[m] < 0 := by omega
          clear hs0
          go_wp2_with fail
          go_ret2
          exact places_no Hbad.out hwr
       ·have Hbad := Lib.hid (Hbadz.out (fun hc => hr ⟨hc.1, hc.2.1⟩))
        by_cases hs0 : 0 ≤ A.small[j]
        ·have hs1 : (A.letters.length : Int) ≤ A.small[j] := by omega
         clear hr
         go_wp2_with fail
         go_ret2
         exact places_no Hbad.out hwr
        ·clear hr
         have hs1 : A.small[j] < 0 := by omega
         clear hs0
         go_wp2_with fail
         go_ret2
         exact places_no Hbad.out hwr
      ·have Hyes := Lib.hid (show Formed10 A from ⟨Hname.out, hn1, hn64, Hsl.out, fun l hl => by
         obtain ⟨i, hi⟩ := List.getElem?_of_mem hl
         have := Hpl.out i l (List.getElem?_eq_some_iff.1 hi).1 hi
         exact ⟨this.2.1, this.2.2, this.1⟩, fun z hz => by
         obtain ⟨i, hi⟩ := List.getElem?_of_mem hz
         have := Hz.out i z (by have := (List.getElem?_eq_some_iff.1 hi).1; omega) hi
         exact ⟨this.1, this.2.1⟩, by have := Hnd.out; rwa [List.take_length] at this, fun i z hi => (Hz.out i z (by have := (List.getElem?_eq_some_iff.1 hi).1; omega) hi).2.2⟩)
       go_wp2_with fail
       go_ret2
       refine places_yes Hyes.out hb1w.size ?_ hwr
       have := HM.out
       rwa [List.take_length] at this
  ·have Hbad := Lib.hid (show ¬ Formed10 A from fun hf => hlen ⟨⟨hf.2.1, hf.2.2.1⟩, hf.2.2.2.1⟩)
   rw [hname]
   clear hname
   by_cases h1 : 1 ≤ A.letters.length
   ·by_cases h64 : A.letters.length ≤ 64
    ·have hq : ((A.small.length : Int) != A.letters.length) = true := by simp; omega
     clear hlen
     go_wp2_with fail
     go_ret2
     exact places_no Hbad.out hb1w
    ·clear hlen
     go_wp2_with fail
     go_ret2
     exact places_no Hbad.out hb1w
   ·clear hlen
    go_wp2_with fail
    go_ret2
    exact places_no Hbad.out hb1w
 ·have hname' : nameB (bl A.name) = false := by simpa using hname
  have Hbad := Lib.hid (show ¬ Formed10 A from fun hf => hname hf.1)
  rw [hname']
  clear hname hname'
  go_wp2_with fail
  go_ret2
  exact places_no Hbad.out hb1w

end Go.Proofs.YtabocamjaecaaaaGreatDoor
