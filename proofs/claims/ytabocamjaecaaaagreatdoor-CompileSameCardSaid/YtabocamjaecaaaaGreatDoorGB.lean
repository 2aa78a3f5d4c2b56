/- A1 · A2 -/
import Derived.Test.YtabocamjaecaaaaGreatDoorGW
import Derived.Test.YtabocamjaecaaaaGreatDoorGT
import Derived.Test.YtabocamjaecaaaaGreatDoorShelf
/- Walks of the alphabet: what can be a letter; which texts can begin letters. -/
namespace Go.Proofs.YtabocamjaecaaaaGreatDoor
open Go.RowKit Classical

set_option maxRecDepth 100000 in
set_option maxHeartbeats 400000 in
theorem printed_any (s : ByteArray) (w : World) (hs : s.size ≤ maxLen) :
  Calls Tryz.prog 61 #[.string s] w fun e w' => e = .returned (.bool (decide (Plain11 s 1 3))) ∧ w = w' := by
 unfold maxLen at hs
 go_enter Tryz.func61, Tryz.ntmps61
 go_wp2
 go_loop [3] (fun i => ∃ j : Nat, j ≤ s.size ∧ i = .int .i64 j ∧ ((bl s).take j).all printC = true) (fun i => s.size - (intOf i).toNat)
 case atStart => exact ⟨0, Nat.zero_le _, rfl, rfl⟩
 case round =>
  obtain ⟨j, hj, rfl, hall⟩ := hrel
  have Hall := Lib.hid hall
  clear hall
  by_cases hjl : j < s.size
  ·have hg := Lib.hid (bl_get _ j hjl)
   have hbad : printC s[j] = false → ¬ Plain11 s 1 3 := fun hp hf => by
    have := hf.1
    rw [printB, all_false_of _ _ j _ hg.out hp] at this
    cases this
   have Hbad := Lib.hid hbad
   clear hbad
   go_wp2
   ·have h1 : (((s[j].toNat : Int) < 33 ∨ (126 : Int) < (s[j].toNat : Int)) ∨ ((s[j].toNat : Int) == 34) = true) := by assumption
    go_ret
    exact ⟨ret_no (Hbad.out (printC_no (by rcases h1 with (h | h) | h <;> simp [h]))), rfl⟩
   ·have h1 : (((33 : Int) ≤ (s[j].toNat : Int) ∧ (s[j].toNat : Int) ≤ 126) ∧ ((s[j].toNat : Int) == 34) = false) := by assumption
    refine ⟨⟨j + 1, by omega, by go_num, ?_⟩, by simp [intOf]; omega⟩
    rw [all_take_succ _ _ j _ hg.out, Hall.out, printC_yes h1.1.1 h1.1.2 h1.2]; rfl
   ·have h1 : (126 : Int) < (s[j].toNat : Int) := by assumption
    go_ret
    exact ⟨ret_no (Hbad.out (printC_no (.inr (.inl h1)))), rfl⟩
   ·have h1 : (s[j].toNat : Int) < 33 := by assumption
    go_ret
    exact ⟨ret_no (Hbad.out (printC_no (.inl h1))), rfl⟩
  ·have hpr : printB (bl s) = true := by
    have := Hall.out
    rwa [List.take_of_length_le (by rw [bl_length]; omega)] at this
   have Hpr := Lib.hid hpr
   clear hpr
   go_wp2
   all_goals
    go_ret
    refine ⟨ret_dec ?_, rfl⟩
    simp [Plain11, Hpr.out]
    try omega

end Go.Proofs.YtabocamjaecaaaaGreatDoor

/- Walk of the alphabet's 'follows' (a function value that calls itself). -/
namespace Go.Proofs.YtabocamjaecaaaaGreatDoor
open Go.RowKit Classical

theorem hasPrefix_dec (s p : ByteArray) : Lib.hasPrefix s.data.toList p.data.toList = decide (bl p <+: bl s) := by
 unfold Lib.hasPrefix bl
 rw [Bool.eq_iff_iff, List.isPrefixOf_iff_prefix]; simp
theorem cutPrefix_yes (s p : ByteArray) (h : bl p <+: bl s) (w : World) :
  Calls Tryz.prog 59 #[.string s, .string p] w fun e w' => e = .returned (.tuple #[.string (s.extract p.size s.size), .bool true]) ∧ w' = w :=
 (Tryz.strings_CutPrefix s p w).mono fun e w' hh => by
  have h1 : Lib.hasPrefix s.data.toList p.data.toList = true := by rw [hasPrefix_dec]; simpa using h
  refine ⟨hh.1.trans ?_, hh.2⟩
  rw [h1]
  have h2 : (⟨(Lib.trimPrefix s.data.toList p.data.toList).toArray⟩ : ByteArray) = s.extract p.size s.size := by
   refine bl_inj ?_
   unfold bl
   rw [Lib.extract_data, List.take_of_length_le (by simp), Lib.trimPrefix, if_pos h1]
   simp
  rw [h2]
theorem cutPrefix_no (s p : ByteArray) (h : ¬ bl p <+: bl s) (w : World) :
  Calls Tryz.prog 59 #[.string s, .string p] w fun e w' => e = .returned (.tuple #[.string s, .bool false]) ∧ w' = w :=
 (Tryz.strings_CutPrefix s p w).mono fun e w' hh => by
  have h1 : Lib.hasPrefix s.data.toList p.data.toList = false := by rw [hasPrefix_dec]; simpa using h
  refine ⟨hh.1.trans ?_, hh.2⟩
  rw [h1]
  have h2 : (⟨(Lib.trimPrefix s.data.toList p.data.toList).toArray⟩ : ByteArray) = s := by
   refine bl_inj ?_
   unfold bl
   rw [Lib.trimPrefix, if_neg (by rw [h1]; simp)]
  rw [h2]
theorem hasPrefix_any (s p : ByteArray) (w : World) :
  Calls Tryz.prog 58 #[.string s, .string p] w fun e w' => e = .returned (.bool (decide (bl p <+: bl s))) ∧ w' = w :=
 (Tryz.strings_HasPrefix s p w).mono fun e w' hh => ⟨hh.1.trans (by rw [hasPrefix_dec]), hh.2⟩

/-- The letters of an alphabet as the call sees them: its box, and its row of letters. -/
structure AlphBox (w : World) (b : Nat) (A : Alph) : Prop where
 rows : ∃ la lc sa sc, Box w b [.string A.name, .slice la A.letters.length lc, .slice sa A.small.length sc] ∧ RowAt w b la (strs A.letters) ∧ RowAt w b sa (nums A.small)
theorem AlphBox.below {w w' : World} {b B : Nat} {A : Alph} (h : AlphBox w b A) (hb : Below B w w') (hB : b < B) : AlphBox w' b A := by
 obtain ⟨la, lc, sa, sc, h1, h2, h3⟩ := h
 exact ⟨la, lc, sa, sc, h1.below hb hB, h2.below hb (by omega), h3.below hb (by omega)⟩
theorem AlphBox.drewN {w : World} {b : Nat} {A : Alph} (h : AlphBox w b A) (n : Nat) : AlphBox (w.drewN n) b A := ⟨h.rows⟩
theorem AlphBox.new {w : World} {v : Value} {A : Alph} (h : AlphAt w w.heap.size v A) : ∃ cs, v = .agg cs ∧ AlphBox (w.alloc (.cells cs 28)) w.heap.size A := by
 obtain ⟨la, lc, sa, sc, rfl, hn, hl1, hs1, hls, hl, hsm⟩ := h
 exact ⟨_, rfl, la, lc, sa, sc, Box.new _ _ _, hl.alloc (Nat.le_refl _) _, hsm.alloc (Nat.le_refl _) _⟩
def followsV (ba bf : Nat) : Value := .func (.func 57) #[] #[.pointer (some ⟨ba, 0, none⟩), .pointer (some ⟨bf, 0, none⟩)]

set_option maxRecDepth 100000 in
set_option maxHeartbeats 1000000 in
theorem follows_any (A : Alph) (hpos : ∀ l ∈ A.letters, 1 ≤ l.size) (hlen : A.letters.length ≤ maxLen) (ba bf : Nat) : ∀ (n : Nat) (s : ByteArray), s.size < n → s.size ≤ maxLen → ∀ (w : World), AlphBox w ba A → Box w bf [followsV ba bf] →
  Calls Tryz.prog 57 #[.string s, .pointer (some ⟨ba, 0, none⟩), .pointer (some ⟨bf, 0, none⟩)] w fun e w' => e = .returned (.bool (decide (Follows A.bls (bl s)))) ∧ w' = w := by
 intro n
 induction n with
 | zero => intro s h; omega
 | succ n ih =>
 intro s hsn hs w h hf
 have hA := h
 obtain ⟨la, lc, sa, sc, hbox, hl, hsm⟩ := h
 have IH := Lib.hid ih
 clear ih
 have hs2 := hs
 unfold maxLen at hs hlen
 have c1 : w.cell? ⟨ba, 1, none⟩ = some (.slice la A.letters.length lc) := hbox 1 _ rfl
 have cf : w.cell? ⟨bf, 0, none⟩ = some (followsV ba bf) := hf 0 _ rfl
 unfold followsV at cf
 go_enter Tryz.func57, Tryz.ntmps57
 go_wp2_with fail
 go_loop [12] (fun i => ∃ k : Nat, k ≤ A.letters.length ∧ i = .int .i64 k ∧ (∀ i l, i < k → A.letters[i]? = some l → ¬ (bl s <+: bl l ∨ bl l <+: bl s ∧ Follows A.bls ((bl s).drop l.size)))) (fun i => A.letters.length - (intOf i).toNat)
 case atStart => exact ⟨0, Nat.zero_le _, rfl, by simp⟩
 case round =>
  obtain ⟨k, hk, rfl, hall⟩ := hrel
  have H := Lib.hid hall
  clear hall
  by_cases hlt : k < A.letters.length
  ·have hmem : bl A.letters[k] ∈ A.bls := List.mem_map_of_mem (List.getElem_mem hlt)
   obtain ⟨b, off, rfl, hb, hc⟩ := hl.strs (by omega)
   have c3 := hc k hlt
   clear hc
   by_cases h1 : bl s <+: bl A.letters[k]
   ·have H1 := Lib.hid h1
    go_wp2_with fail
    refine (hasPrefix_any _ _ _).mono ?_
    rintro e w' ⟨rfl, rfl⟩
    rw [decide_eq_true h1]
    clear h1
    go_wp2_with fail
    go_ret
    exact ⟨ret_yes ((follows_iff _ _).2 ⟨_, hmem, .inl H1.out⟩), rfl⟩
   ·have H1 := Lib.hid h1
    go_wp2_with fail
    refine (hasPrefix_any _ _ _).mono ?_
    rintro e w' ⟨rfl, rfl⟩
    rw [decide_eq_false h1]
    clear h1
    by_cases hp : bl A.letters[k] <+: bl s
    ·have hle : A.letters[k].size ≤ s.size := by have := hp.length_le; rwa [bl_length, bl_length] at this
     have hpos1 := hpos _ (List.getElem_mem hlt)
     have hx : (s.extract A.letters[k].size s.size).size < n := by simp; omega
     have hx2 : (s.extract A.letters[k].size s.size).size ≤ maxLen := by unfold maxLen; simp; omega
     have hx3 : bl (s.extract A.letters[k].size s.size) = (bl s).drop A.letters[k].size := by
      unfold bl; rw [Lib.extract_data, List.take_of_length_le (by simp)]
     have Hx3 := Lib.hid hx3
     have Hp := Lib.hid hp
     go_wp2_with fail
     refine (cutPrefix_yes _ _ hp _).mono ?_
     rintro e w' ⟨rfl, rfl⟩
     clear hx3 hp
     go_wp2_with fail
     refine (IH.out _ hx hx2 _ hA hf).mono ?_
     rintro e w1 ⟨rfl, rfl⟩
     rw [Hx3.out]
     by_cases hf : Follows A.bls ((bl s).drop A.letters[k].size)
     ·rw [decide_eq_true hf]
      go_wp2
      go_ret
      exact ⟨ret_yes ((follows_iff _ _).2 ⟨_, hmem, .inr ⟨_, append_of_prefix.2 ⟨Hp.out, rfl⟩, by rw [bl_length]; exact hf⟩⟩), rfl⟩
     ·rw [decide_eq_false hf]
      go_wp2
      refine ⟨⟨k + 1, by omega, by go_num, fun i l hi hl' => ?_⟩, by simp [intOf]; omega⟩
      rcases Nat.lt_succ_iff_lt_or_eq.1 hi with h | rfl
      ·exact H.out i l h hl'
      ·rw [List.getElem?_eq_getElem hlt] at hl'
       obtain rfl := Option.some.inj hl'
       rintro (h | h)
       ·exact H1.out h
       ·exact hf h.2
    ·have Hp := Lib.hid hp
     go_wp2_with fail
     refine (cutPrefix_no _ _ hp _).mono ?_
     rintro e w' ⟨rfl, rfl⟩
     clear hp
     go_wp2
     refine ⟨⟨k + 1, by omega, by go_num, fun i l hi hl' => ?_⟩, by simp [intOf]; omega⟩
     rcases Nat.lt_succ_iff_lt_or_eq.1 hi with h | rfl
     ·exact H.out i l h hl'
     ·rw [List.getElem?_eq_getElem hlt] at hl'
      obtain rfl := Option.some.inj hl'
      rintro (h | h)
      ·exact H1.out h
      ·exact Hp.out h.1
  ·go_wp2
   go_ret
   refine ⟨ret_no fun hf => ?_, rfl⟩
   obtain ⟨l, hl', h⟩ := (follows_iff _ _).1 hf
   obtain ⟨m, hm, rfl⟩ := List.mem_map.1 hl'
   obtain ⟨i, hi, hi'⟩ := List.getElem_of_mem hm
   refine H.out i m (by omega) (by rw [List.getElem?_eq_getElem hi, hi']) ?_
   rcases h with h | ⟨r, e, h⟩
   ·exact .inl h
   ·obtain ⟨e1, e2⟩ := append_of_prefix.1 e
    rw [bl_length] at e2
    exact .inr ⟨e1, e2 ▸ h⟩

end Go.Proofs.YtabocamjaecaaaaGreatDoor
