/- Walks: which bridges are small (gazetteerref16.Few, gazetteerlaw17.few); the folded words of a name. -/
import Derived.Test.YthachfkcgdfdfaaGreatDoorS18
namespace Go.Proofs.YthachfkcgdfdfaaGreatDoor
open Go.RowKit Go.Shelf Classical

theorem lenF_mem : ∀ {L : List (List UInt8)} {p : List UInt8}, p ∈ L → p.length ≤ L.flatten.length
 | q :: L, p, h => by
  rw [List.flatten_cons, List.length_append]
  rcases List.mem_cons.1 h with rfl | h
  ·omega
  ·have := lenF_mem h; omega
def nilA : Alph := ⟨⟨#[]⟩, [], []⟩
theorem nilA_at (w : World) (B : Nat) : AlphAt w B (.agg #[.string ⟨#[]⟩, .slice none 0 0, .slice none 0 0]) nilA :=
 ⟨none, 0, none, 0, rfl, by unfold maxLen; decide, by unfold maxLen; decide, by unfold maxLen; decide, fun s hs => by simp [nilA] at hs, fun h => by simp [nilA, strs] at h, fun h => by simp [nilA, nums] at h⟩
set_option maxRecDepth 100000 in
set_option maxHeartbeats 2000000 in
theorem few16_any (b : Brid) (v : Value) (w : World) (h : BridAt w w.heap.size v b) :
  Calls Tryz.prog 30 #[v] w fun e w' => TestPost True e ∧ Below w.heap.size w w' := by
 obtain ⟨a, c, a', c', rfl, hl1, hl2, hA, hR⟩ := h
 unfold maxLen at hl1 hl2
 go_enter Tryz.func30, Tryz.ntmps30
 go_upto_region 1 with (fail)
 generalize hW0 : (w.alloc _) = W0
 have hw0 : Below w.heap.size w W0 := by rw [← hW0]; exact (Below.refl _ _).alloc (Nat.le_refl _) _
 have hbx : Box W0 w.heap.size [.slice a b.scripts.length c, .slice a' b.rules.length c'] := by rw [← hW0]; exact Box.new w _ 25
 have hsz : W0.heap.size = w.heap.size + 1 := by rw [← hW0]; simp
 have HK := Lib.hid (fun (wr : World) (hb : Below W0.heap.size W0 wr) => (show (wr.cell? ⟨w.heap.size, 0, none⟩ = some (.slice a b.scripts.length c) ∧ wr.cell? ⟨w.heap.size, 1, none⟩ = some (.slice a' b.rules.length c')) ∧ AlphsAt wr wr.heap.size a b.scripts ∧ RulssAt wr wr.heap.size a' b.rules ∧ Below w.heap.size w wr from by
  have hbw : Below w.heap.size w wr := hw0.trans (hb.mono hw0.size)
  exact ⟨(hbx.below hb (by omega)).c2, (hA.below hbw (Nat.le_refl _)).more hbw.size, (hR.below hbw (Nat.le_refl _)).more hbw.size, hbw⟩))
 clear hW0 hw0 hbx hA hR
 obtain ⟨⟨m0, m1⟩, -, -, hw0⟩ := HK.out W0 (Below.refl _ _)
 by_cases h4 : b.scripts.length ≤ 4
 case neg =>
  go_wp2_with fail
  go_ret
  exact ⟨test_of (fun _ => trivial), hw0⟩
 by_cases h6 : b.rules.length ≤ 6
 case neg =>
  go_wp2_with fail
  go_ret
  exact ⟨test_of (fun _ => trivial), hw0⟩
 go_wp2_with fail
 clear hw0 m0 m1
 go_loopw [3] (fun i wr => ∃ k : Nat, k ≤ b.scripts.length ∧ i = .int .i64 k ∧ Below W0.heap.size W0 wr) (fun i _ => b.scripts.length - (intOf i).toNat)
 case atStart => exact ⟨0, Nat.zero_le _, rfl, Below.refl _ _⟩
 case round =>
  obtain ⟨k, hk, rfl, hbk⟩ := hrel
  obtain ⟨⟨m0, m1⟩, hA, -, hbw⟩ := HK.out wr hbk
  by_cases hkl : k < b.scripts.length
  ·obtain ⟨A, hAk⟩ : ∃ A, b.scripts[k]? = some A := ⟨_, List.getElem?_eq_getElem hkl⟩
   obtain ⟨g, o, la, fc, sa, sc, rfl, hg, q0, q1, q2, hat⟩ := hA.get hAk
   have HF := Lib.hid (few10_any _ A wr hat)
   have Hb := Lib.hid (And.intro hbk hbw)
   have hs := hbk.size
   clear hAk hat hbk hbw
   by_cases h30 : A.letters.length ≤ 30
   ·go_wp2_with fail
    refine HF.out.mono ?_
    rintro e w2 ⟨rfl, hb2⟩
    have Hb2 := Lib.hid (And.intro (Hb.out.1.trans (hb2.mono hs)) (Hb.out.2.trans (hb2.mono Hb.out.2.size)))
    clear hb2 HF m0 m1 q0 q1 q2
    by_cases hf : Few10 A
    ·rw [decide_eq_true hf]
     clear hf
     go_wp2_with fail
     exact ⟨⟨k + 1, by omega, by go_num, Hb2.out.1⟩, by simp [intOf]; omega⟩
    ·rw [decide_eq_false hf]
     clear hf
     go_wp2_with fail
     go_ret
     exact ⟨test_of (fun _ => trivial), Hb2.out.2⟩
   ·go_wp2_with fail
    go_ret
    exact ⟨test_of (fun _ => trivial), Hb.out.2⟩
  ·obtain rfl : k = b.scripts.length := by omega
   have Hbk := Lib.hid hbk
   clear hA hbw hbk
   obtain ⟨wo, rfl⟩ : ∃ wo : World, wo = wr := ⟨_, rfl⟩
   go_wp2_with fail
   clear m0 m1
   go_loopw [4] (fun i wr => ∃ k : Nat, k ≤ b.rules.length ∧ i = .int .i64 k ∧ Below W0.heap.size W0 wr) (fun i _ => b.rules.length - (intOf i).toNat)
   case atStart => exact ⟨0, Nat.zero_le _, rfl, Hbk.out⟩
   case round =>
    obtain ⟨k, hk, rfl, hbk⟩ := hrel
    obtain ⟨⟨m0, m1⟩, -, hR, hbw⟩ := HK.out wr hbk
    by_cases hkl : k < b.rules.length
    ·obtain ⟨R, hRk⟩ : ∃ R, b.rules[k]? = some R := ⟨_, List.getElem?_eq_getElem hkl⟩
     obtain ⟨g, o, la, lc, rfl, hg, q0, q1, q2, hat⟩ := hR.get hRk
     have HF := Lib.hid (few13_any R nilA nilA 14 _ _ _ wr hat (nilA_at wr _) (nilA_at wr _))
     have Hb := Lib.hid (And.intro hbk hbw)
     have hs := hbk.size
     clear hRk hat hbk hbw
     go_wp2_with fail
     refine HF.out.mono ?_
     rintro e w2 ⟨rfl, hb2⟩
     have Hb2 := Lib.hid (And.intro (Hb.out.1.trans (hb2.mono hs)) (Hb.out.2.trans (hb2.mono Hb.out.2.size)))
     clear hb2 HF m0 m1 q0 q1 q2
     by_cases hf : Few13 R nilA nilA 14
     ·rw [decide_eq_true hf]
      clear hf
      go_wp2_with fail
      exact ⟨⟨k + 1, by omega, by go_num, Hb2.out.1⟩, by simp [intOf]; omega⟩
     ·rw [decide_eq_false hf]
      clear hf
      go_wp2_with fail
      go_ret
      exact ⟨test_of (fun _ => trivial), Hb2.out.2⟩
    ·go_wp2_with fail
     go_ret
     exact ⟨test_of (fun _ => trivial), hbw⟩
set_option maxRecDepth 100000 in
set_option maxHeartbeats 2000000 in
theorem few17_any (b : Brid) (v : Value) (lang text : ByteArray) (i : Int) (hlang : lang.size ≤ maxLen) (htext : text.size ≤ maxLen) (w : World) (h : BridAt w w.heap.size v b) :
  Calls Tryz.prog 10 #[v, nameV lang i text, nameV lang i text] w fun e w' => TestPost (text.size ≤ 450) e ∧ Below w.heap.size w w' := by
 unfold maxLen at hlang htext
 have hB := h
 obtain ⟨a, c, a', c', rfl, hl1, hl2, hA, hR⟩ := h
 unfold nameV
 go_enter Tryz.func10, Tryz.ntmps10
 go_upto_region 1 with (fail)
 generalize hW0 : (((w.alloc _).alloc _).alloc _) = W0
 have hw0 : Below w.heap.size w W0 := by rw [← hW0]; exact (((Below.refl _ _).alloc (Nat.le_refl _) _).alloc (by simp) _).alloc (by simp; omega) _
 have hsz : W0.heap.size = w.heap.size + 3 := by rw [← hW0]; simp
 have hbr : Box W0 w.heap.size [.slice a b.scripts.length c, .slice a' b.rules.length c'] := by
  rw [← hW0]; exact ((Box.new _ _ _).alloc (by simp) _).alloc (by simp; omega) _
 have hba : Box W0 (w.heap.size + 1) [.string lang, .int .i64 i, .string text] := by
  rw [← hW0]; have := (Box.new (w.alloc (.cells #[.slice a b.scripts.length c, .slice a' b.rules.length c'] 25)) [.string lang, .int .i64 i, .string text] 27)
  simp at this; exact this.alloc (by simp) _
 have hbb : Box W0 (w.heap.size + 2) [.string lang, .int .i64 i, .string text] := by
  rw [← hW0]; have := (Box.new ((w.alloc (.cells #[.slice a b.scripts.length c, .slice a' b.rules.length c'] 25)).alloc (.cells #[.string lang, .int .i64 i, .string text] 27)) [.string lang, .int .i64 i, .string text] 27)
  simp at this; exact this
 clear hW0
 obtain ⟨r0, r1⟩ := hbr.c2
 have HF := Lib.hid (few16_any b _ W0 ((hB.below hw0 (Nat.le_refl _)).more hw0.size))
 have H0 := Lib.hid (And.intro hw0 (And.intro hba hbb))
 clear hw0 hba hbb hbr hB hA hR
 go_wp2_with fail
 refine HF.out.mono ?_
 rintro e w2 ⟨⟨q, rfl, -⟩, hb2⟩
 obtain ⟨a0, a1, a2⟩ := (H0.out.2.1.below hb2 (by omega)).c3
 obtain ⟨d0, d1, d2⟩ := (H0.out.2.2.below hb2 (by omega)).c3
 have Hb := Lib.hid (H0.out.1.trans (hb2.mono H0.out.1.size))
 clear r0 r1 HF hb2 H0
 cases q with
 | false =>
  go_wp2_with fail
  go_ret
  exact ⟨test_no _, Hb.out⟩
 | true =>
  by_cases ht : text.size ≤ 450
  ·by_cases hg : lang.size ≤ 100
   ·go_wp2_with fail
    go_ret
    exact ⟨test_of (fun _ => ht), Hb.out⟩
   ·go_wp2_with fail
    go_ret
    exact ⟨test_no _, Hb.out⟩
  ·go_wp2_with fail
   go_ret
   exact ⟨test_no _, Hb.out⟩
theorem own_frz {w : World} {base : Nat} {e : TypeId} {size n c g : Nat} {xs : List Value} (h : w.ownsRow base e size (.slice (some ⟨g, 0, none⟩) n c) n xs) (i : Nat) : w.frozen? ⟨g, i, none⟩ = false := by
 rcases h.2 with ⟨h, _⟩ | ⟨g', cap, cur, e, _, h1, _⟩
 ·cases h
 ·cases e
  exact Blk.frozen (show Blk w g cur _ from h1) i
theorem own_set {w : World} {base : Nat} {e : TypeId} {n c g k : Nat} {xs : List Value} (h : w.ownsRow base e 1 (.slice (some ⟨g, 0, none⟩) n c) n xs) (u : Value) : (w.setCell ⟨g, k, none⟩ u).ownsRow base e 1 (.slice (some ⟨g, 0, none⟩) n c) n (xs.set k u) := by
 refine ⟨by rw [List.length_set]; exact h.1, ?_⟩
 rcases h.2 with ⟨h, _⟩ | ⟨g', cap, cur, e1, h1, h2, h3, h4, h5, h6⟩
 ·cases h
 ·cases e1
  refine .inr ⟨g, c, cur.setIfInBounds k u, rfl, h1, (show Blk w g cur _ from h2).set_ k u, h3, h4, by rw [Array.size_setIfInBounds]; exact h5, ?_⟩
  rw [Array.toList_setIfInBounds, ← h6, List.take_set]
theorem mix_step {α : Type} {A B : List α} {k : Nat} {a : α} (ha : A[k]? = some a) (hb : k < B.length) : (A.take k ++ B.drop k).set k a = A.take (k + 1) ++ B.drop (k + 1) := by
 obtain ⟨hk, rfl⟩ := List.getElem?_eq_some_iff.1 ha
 have hl : (A.take k).length = k := by rw [List.length_take]; omega
 rw [List.set_append_right _ _ (by omega), hl, Nat.sub_self, List.drop_eq_getElem_cons hb, List.set_cons_zero, List.take_succ_eq_append_getElem hk, List.append_assoc]
 rfl
theorem own_upB {w w' : World} {base : Nat} {e : TypeId} {size n : Nat} {v : Value} {xs : List Value} (h : w.ownsRow base e size v n xs) (hb : Below w.heap.size w w') : w'.ownsRow base e size v n xs := own_below h hb
/-- What folded answers for a valid name. -/
def FoldedPost (t : List UInt8) (A : Alph) (w : World) (e : Ending) (w' : World) : Prop :=
 ∃ (la : Option Addr) (lc : Nat) (L : List ByteArray), e = .returned (.tuple #[.slice la L.length lc, .bool true]) ∧ L.map bl = (wordsOf t).map (foldL A) ∧ RowAt w' w'.heap.size la (strs L) ∧ Below w.heap.size w w'
set_option maxRecDepth 100000 in
set_option maxHeartbeats 4000000 in
theorem folded_any (b : Brid) (v : Value) (lang text : ByteArray) (i : Int) (A : Alph) (hA : b.scripts[i.toNat]? = some A) (hN : NameOk b lang i (bl text)) (htext : text.size ≤ 450) (w : World) (h : BridAt w w.heap.size v b) :
  Calls Tryz.prog 24 #[v, nameV lang i text] w (FoldedPost (bl text) A w) := by
 obtain ⟨i0, hi, hz0, hz1, hz2⟩ := info_parts info_str17
 obtain ⟨a, c, a', c', rfl, hl1, hl2, hAs, hRs⟩ := h
 obtain ⟨hi0, hi1⟩ := hN.script
 obtain ⟨m, rfl⟩ : ∃ m : Nat, i = (m : Int) := ⟨i.toNat, by omega⟩
 rw [Int.toNat_natCast] at hA
 have hwd := hN.parts (A := A) (by rw [Int.toNat_natCast]; exact hA)
 have hval : Valid10 A := hN.brid.scr.alph A (List.mem_of_getElem? hA)
 have hread : ∀ p ∈ wordsOf (bl text), (readL A.bls p).err = 0 := fun p hp => hN.word A (by rw [Int.toNat_natCast]; exact hA) p (by rw [← hwd.2.1]; exact hp)
 have hmn : m < b.scripts.length := by omega
 have HW := Lib.hid (And.intro hval (And.intro hread hA))
 have hw1 := hwd.2.2.1
 have hw6 := hwd.2.2.2
 unfold maxLen at hl1
 clear hN hwd hval hread hA hi0 hi1 hRs
 unfold nameV
 go_enter Tryz.func24, Tryz.ntmps24
 go_upto_region 1 with (fail)
 generalize hW0 : ((w.alloc _).alloc _) = W0
 have hw0 : Below w.heap.size w W0 := by rw [← hW0]; exact ((Below.refl _ _).alloc (Nat.le_refl _) _).alloc (by simp) _
 have hsz : W0.heap.size = w.heap.size + 2 := by rw [← hW0]; simp
 have hbr : Box W0 w.heap.size [.slice a b.scripts.length c, .slice a' b.rules.length c'] := by
  rw [← hW0]; exact (Box.new _ _ _).alloc (by simp) _
 have hba : Box W0 (w.heap.size + 1) [.string lang, .int .i64 (m : Int), .string text] := by
  rw [← hW0]; have := (Box.new (w.alloc (.cells #[.slice a b.scripts.length c, .slice a' b.rules.length c'] 25)) [.string lang, .int .i64 (m : Int), .string text] 27)
  simp at this; exact this
 have HK := Lib.hid (fun (wr : World) (hb : Below W0.heap.size W0 wr) => (show (wr.cell? ⟨w.heap.size, 0, none⟩ = some (.slice a b.scripts.length c) ∧ wr.cell? ⟨w.heap.size, 1, none⟩ = some (.slice a' b.rules.length c')) ∧ (wr.cell? ⟨w.heap.size + 1, 0, none⟩ = some (.string lang) ∧ wr.cell? ⟨w.heap.size + 1, 1, none⟩ = some (.int .i64 (m : Int)) ∧ wr.cell? ⟨w.heap.size + 1, 2, none⟩ = some (.string text)) ∧ AlphsAt wr wr.heap.size a b.scripts ∧ Below w.heap.size w wr from by
  have hbw : Below w.heap.size w wr := hw0.trans (hb.mono hw0.size)
  exact ⟨(hbr.below hb (by omega)).c2, (hba.below hb (by omega)).c3, (hAs.below hbw (Nat.le_refl _)).more hbw.size, hbw⟩))
 have HSZ := Lib.hid hsz
 clear hW0 hw0 hbr hba hAs hsz
 obtain ⟨-, ⟨-, -, n2⟩, -, -⟩ := HK.out (W0.alloc (.cells #[] 9)) ((Below.refl _ _).alloc (Nat.le_refl _) _)
 have HSp := Lib.hid (Split_any text (by omega) (W0.alloc (.cells #[] 9)))
 go_wp2_with fail
 refine HSp.out.mono ?_
 rintro e w2 ⟨v, l, rfl, hl, hol, hb2⟩
 obtain ⟨sa, sc, rfl, -, hrl⟩ := RowAt.of_own hol
 have hll : l.length = (wordsOf (bl text)).length := by rw [← hl, List.length_map]
 have hown2 := own_below (own_empty W0 9 1) hb2
 have hb20 : Below W0.heap.size W0 w2 := ((Below.refl _ W0).alloc (Nat.le_refl _) _).trans (hb2.mono (by simp))
 have hs20 := hb20.size
 have H2 := Lib.hid (And.intro hl (And.intro hrl (And.intro hown2 hb20)))
 have hl6 : l.length ≤ 6 := by omega
 have hl1' : 1 ≤ l.length := by omega
 have Hll := Lib.hid hll
 clear hl hrl hol hown2 hb2 hb20 HSp n2 hll hw1 hw6
 go_wp2_with (at_builtin; refine wpList_append_row rfl _ _ 29 rfl W0.heap.size 9 i0 _ 1 16 Tryz.underlying29 hi hz0 hz1 hz2 rfl (by decide) _ _ _ rfl H2.out.2.2.1 sa l.length sc (strs l) rfl (by simp [strs]) H2.out.2.1 strs_one (by unfold maxLen; omega) (by omega) hs20 ?_)
 intro v3 w3 hown3 hgrow3
 try rw [Nat.zero_add] at hown3
 try rw [List.nil_append] at hown3
 have hb3 : Below W0.heap.size W0 w3 := H2.out.2.2.2.grown hgrow3 hs20 (fun k hk => (H2.out.2.2.1.lt k hk).1)
 obtain ⟨g, cc, rfl⟩ : ∃ g cc, v3 = .slice (some ⟨g, 0, none⟩) l.length cc := by
  rcases hown3.2 with ⟨-, h0⟩ | ⟨g, cap, cur, e, -⟩
  ·omega
  ·exact ⟨g, cap, e⟩
 have H3 := Lib.hid (And.intro hown3 hb3)
 have hgb := (hown3.lt g rfl).1
 obtain ⟨⟨m0, m1⟩, ⟨n0, n1, n2⟩, -, -⟩ := HK.out w3 hb3
 have Hl := Lib.hid H2.out.1
 clear hown3 hgrow3 hb3 H2
 have dn : decide ((m : Int) < 0) = false := decide_eq_false (by omega)
 have dm : decide (b.scripts.length ≤ m) = false := decide_eq_false (by omega)
 go_wp2_with fail
 clear m0 m1 n0 n1 n2 dn dm
 go_loopw [7] (fun i wr => ∃ (k : Nat) (L : List ByteArray), k ≤ l.length ∧ i = .int .i64 k ∧ L.length = l.length ∧ L.map bl = ((wordsOf (bl text)).take k).map (foldL A) ++ (wordsOf (bl text)).drop k ∧ wr.ownsRow W0.heap.size 9 1 (.slice (some ⟨g, 0, none⟩) l.length cc) l.length (strs L) ∧ Below W0.heap.size W0 wr) (fun i _ => l.length - (intOf i).toNat)
 case atStart => exact ⟨0, l, Nat.zero_le _, rfl, rfl, by rw [List.take_zero, List.drop_zero]; exact Hl.out, H3.out.1, H3.out.2⟩
 case round =>
  obtain ⟨k, L, hk, rfl, hL, hmap, hown, hbk⟩ := hrel
  obtain ⟨⟨m0, m1⟩, ⟨n0, n1, n2⟩, hA, hbw⟩ := HK.out wr hbk
  by_cases hkl : k < l.length
  ·obtain ⟨ag, ao, la, fc, sa2, sc2, rfl, hag, q0, q1, q2, hat⟩ := hA.get HW.out.2.2
   have hkL : k < L.length := by omega
   obtain ⟨s, hs⟩ : ∃ s, L[k] = s := ⟨_, rfl⟩
   have hkw : k < (wordsOf (bl text)).length := by have := Hll.out; omega
   have hbs : (wordsOf (bl text))[k]? = some (bl s) := by
    have h1 : (L.map bl)[k]? = some (bl s) := by rw [List.getElem?_map, List.getElem?_eq_getElem hkL, hs]; rfl
    rw [hmap, List.getElem?_append_right (by simp; omega)] at h1
    simp only [List.length_map, List.length_take] at h1
    rw [Nat.min_eq_left (by omega), Nat.sub_self, List.getElem?_drop, Nat.add_zero] at h1
    exact h1
   have hss : s.size ≤ 450 := by
    have h1 := lenF_mem (L := wordsOf (bl text)) (p := bl s) (List.mem_of_getElem? hbs)
    have h2 := wordsOf_total (bl text)
    rw [bl_length] at h1 h2
    omega
   have hrw : RowAt wr wr.heap.size (some ⟨g, 0, none⟩) (strs L) := by
    obtain ⟨a5, c5, e5, -, hr5⟩ := RowAt.of_own hown
    cases e5
    exact hr5
   obtain ⟨b5, o5, e5, -, hc5⟩ := hrw.strs (by omega)
   cases e5
   have x0 := hc5 k hkL
   rw [hs, Nat.zero_add] at x0
   have hgl : g < wr.heap.size := (hown.lt g rfl).2
   have fr := own_frz hown k
   have HRD := Lib.hid (fun (w' : World) (hb : Below wr.heap.size wr w') => (show w'.cell? ⟨w.heap.size, 0, none⟩ = some (.slice (some ⟨ag, ao, none⟩) b.scripts.length c) ∧ w'.cell? ⟨w.heap.size + 1, 1, none⟩ = some (.int .i64 (m : Int)) ∧ w'.cell? ⟨ag, ao + m * 3, none⟩ = some (.string A.name) ∧ w'.cell? ⟨ag, ao + m * 3 + 1, none⟩ = some (.slice la A.letters.length fc) ∧ w'.cell? ⟨ag, ao + m * 3 + 2, none⟩ = some (.slice sa2 A.small.length sc2) ∧ w'.cell? ⟨g, k, none⟩ = some (.string s) from by
    have hz := hbk.size
    have hz2 := HSZ.out
    exact ⟨(hb.cell (p := ⟨w.heap.size, 0, none⟩) (by show w.heap.size < _; omega)).trans m0, (hb.cell (p := ⟨w.heap.size + 1, 1, none⟩) (by show w.heap.size + 1 < _; omega)).trans n1, (hb.cell (p := ⟨ag, _, none⟩) hag).trans q0, (hb.cell (p := ⟨ag, _, none⟩) hag).trans q1, (hb.cell (p := ⟨ag, _, none⟩) hag).trans q2, (hb.cell (p := ⟨g, k, none⟩) hgl).trans x0⟩))
   have HF := Lib.hid (fun (q : Nat) => Fold_any A (.agg #[.string A.name, .slice la A.letters.length fc, .slice sa2 A.small.length sc2]) s (by unfold maxLen; omega) (wr.drewN q) (hat.below (Go.below_drewN (Below.refl _ _) q) (Nat.le_refl _)))
   have HI := Lib.hid (And.intro hmap (And.intro hown (And.intro hbk (And.intro hbs hbw))))
   have HL := Lib.hid hL
   have hwz := hbk.size
   clear m0 m1 n0 n1 n2 q0 q1 q2 x0 hA hat hmap hown hbk hbs hbw hs hrw hc5 hkw hkL hL
   go_upto_region 7 with (fail)
   refine wp_region_held_drew (S := fun w' => Below wr.heap.size wr w') (by kernel_rfl) (Go.below_drewN (Below.refl _ wr) 1) (fun hHeld => ?_)
   refine wpAnyH_take (i := 0) (v := ?_) rfl (by kernel_rfl) (by kernel_rfl) (by kernel_rfl) (fun _ _ _ h => h) (Or.inl ⟨by rfl, ?_⟩) (by assumption) ?_
   rotate_left
   ·intro w' hSw; obtain ⟨s1, s2, s3, s4, s5, s6⟩ := HRD.out w' hSw; first | (go_simp; done) | (go_simp; with_reducible rfl)
   try simp only [Act.put, List.setIfInBounds_toArray]
   refine wpAnyH_take (i := 1) (v := ?_) rfl (by kernel_rfl) (by kernel_rfl) (by kernel_rfl) (fun _ _ _ h => h) (Or.inl ⟨by rfl, ?_⟩) (by assumption) ?_
   rotate_left
   ·intro w' hSw; obtain ⟨s1, s2, s3, s4, s5, s6⟩ := HRD.out w' hSw; first | (go_simp; done) | (go_simp; with_reducible rfl)
   try simp only [Act.put]
   refine wpAnyH_take (i := 2) (v := ?_) rfl (by kernel_rfl) (by kernel_rfl) (by kernel_rfl) (fun _ _ _ h => h) (Or.inl ⟨by rfl, ?_⟩) (by assumption) ?_
   rotate_left
   ·intro w' hSw; obtain ⟨s1, s2, s3, s4, s5, s6⟩ := HRD.out w' hSw; first | (go_simp; done) | (go_simp; with_reducible rfl)
   try simp only [Act.put]
   refine wpAnyH_take (i := 3) (v := ?_) rfl (by kernel_rfl) (by kernel_rfl) (by kernel_rfl) (fun _ _ _ h => h) (Or.inl ⟨by rfl, ?_⟩) (by assumption) ?_
   rotate_left
   ·intro w' hSw; obtain ⟨s1, s2, s3, s4, s5, s6⟩ := HRD.out w' hSw; first | (go_simp; done) | (go_simp; with_reducible rfl)
   try simp only [Act.put]
   refine wpAnyH_take (i := 4) (v := ?_) rfl (by kernel_rfl) (by kernel_rfl) (by kernel_rfl) (fun _ _ _ h => h) (Or.inl ⟨by rfl, ?_⟩) (by assumption) ?_
   rotate_left
   ·intro w' hSw; obtain ⟨s1, s2, s3, s4, s5, s6⟩ := HRD.out w' hSw; first | (go_simp; done) | (go_simp; with_reducible rfl)
   try simp only [Act.put]
   refine wpAnyH_take (i := 5) (v := ?_) rfl (by kernel_rfl) (by kernel_rfl) (by kernel_rfl) (fun _ _ _ h => h) (Or.inl ⟨by rfl, ?_⟩) (by assumption) ?_
   rotate_left
   ·intro w' hSw; obtain ⟨s1, s2, s3, s4, s5, s6⟩ := HRD.out w' hSw; first | (go_simp; done) | (go_simp; with_reducible rfl)
   try simp only [Act.put]
   refine wpAnyH_take (i := 6) (v := ?_) rfl (by kernel_rfl) (by kernel_rfl) (by kernel_rfl) (fun _ _ _ h => h) (Or.inl ⟨by rfl, ?_⟩) (by assumption) ?_
   rotate_left
   ·intro w' hSw; obtain ⟨s1, s2, s3, s4, s5, s6⟩ := HRD.out w' hSw; first | (go_simp; done) | (go_simp; with_reducible rfl)
   try simp only [Act.put]
   refine wpAnyH_take (i := 7) (v := ?_) rfl (by kernel_rfl) (by kernel_rfl) (by kernel_rfl) (fun _ _ _ h => h) (Or.inl ⟨by rfl, ?_⟩) (by assumption) ?_
   rotate_left
   ·intro w' hSw; obtain ⟨s1, s2, s3, s4, s5, s6⟩ := HRD.out w' hSw; first | (go_simp; done) | (go_simp; with_reducible rfl)
   try simp only [Act.put]
   refine wpAnyH_take (i := 8) (v := ?_) rfl (by kernel_rfl) (by kernel_rfl) (by kernel_rfl) (fun _ _ _ h => h) (Or.inl ⟨by rfl, ?_⟩) (by assumption) ?_
   rotate_left
   ·intro w' hSw; obtain ⟨s1, s2, s3, s4, s5, s6⟩ := HRD.out w' hSw; first | (go_simp; done) | (go_simp; with_reducible rfl)
   try simp only [Act.put]
   refine wpAnyH_take (i := 9) (v := ?_) rfl (by kernel_rfl) (by kernel_rfl) (by kernel_rfl) (fun _ _ _ h => h) (Or.inl ⟨by rfl, ?_⟩) (by assumption) ?_
   rotate_left
   ·intro w' hSw; obtain ⟨s1, s2, s3, s4, s5, s6⟩ := HRD.out w' hSw; first | (go_simp; done) | (go_simp; with_reducible rfl)
   try simp only [Act.put]
   refine wpAnyH_ready (rs := [10]) (by kernel_rfl) (by simp) ?_
   refine AllReadyH.cons rfl (fun K hK => ?_) AllReadyH.nil
   go_simp
   go_at_call 57
   refine (HF.out 1).mono ?_
   rintro e w5 ⟨t', err, rfl, hfo, hb5⟩
   have hb5' : Below wr.heap.size wr w5 := (Go.below_drewN (Below.refl _ wr) 1).trans hb5
   obtain ⟨hft, rfl⟩ : bl t' = foldL A (bl s) ∧ err = 0 := by
    rcases hfo with ⟨-, -, h3, h4⟩ | ⟨h1, -⟩
    ·exact ⟨h3, h4⟩
    ·exact absurd ⟨HW.out.1, HW.out.2.1 _ (List.mem_of_getElem? HI.out.2.2.2.1)⟩ h1
   go_simp
   refine hK.out _ _ hb5' (fun _ => ?_)
   clear hK K
   try simp only [Act.put, List.setIfInBounds_toArray, List.set_cons_zero, List.set_cons_succ]
   refine wpAnyH_take (i := 11) (v := ?_) rfl (by kernel_rfl) (by kernel_rfl) (by kernel_rfl) (fun _ _ _ h => h) (Or.inl ⟨by rfl, ?_⟩) (by assumption) ?_
   rotate_left
   ·intro w' hSw; obtain ⟨s1, s2, s3, s4, s5, s6⟩ := HRD.out w' hSw; first | (go_simp; done) | (go_simp; with_reducible rfl)
   try simp only [Act.put, List.setIfInBounds_toArray]
   refine wpAnyH_take (i := 12) (v := ?_) rfl (by kernel_rfl) (by kernel_rfl) (by kernel_rfl) (fun _ _ _ h => h) (Or.inl ⟨by rfl, ?_⟩) (by assumption) ?_
   rotate_left
   ·intro w' hSw; obtain ⟨s1, s2, s3, s4, s5, s6⟩ := HRD.out w' hSw; first | (go_simp; done) | (go_simp; with_reducible rfl)
   try simp only [Act.put]
   refine wpAnyH_take (i := 13) (v := ?_) rfl (by kernel_rfl) (by kernel_rfl) (by kernel_rfl) (fun _ _ _ h => h) (Or.inl ⟨by rfl, ?_⟩) (by assumption) ?_
   rotate_left
   ·intro w' hSw; obtain ⟨s1, s2, s3, s4, s5, s6⟩ := HRD.out w' hSw; first | (go_simp; done) | (go_simp; with_reducible rfl)
   try simp only [Act.put]
   refine wpAnyH_take (i := 14) (v := ?_) rfl (by kernel_rfl) (by kernel_rfl) (by kernel_rfl) (fun _ _ _ h => h) (Or.inl ⟨by rfl, ?_⟩) (by assumption) ?_
   rotate_left
   ·intro w' hSw; obtain ⟨s1, s2, s3, s4, s5, s6⟩ := HRD.out w' hSw; first | (go_simp; done) | (go_simp; with_reducible rfl)
   try simp only [Act.put]
   refine wpAnyH_take (i := 15) (v := ?_) rfl (by kernel_rfl) (by kernel_rfl) (by kernel_rfl) (fun _ _ _ h => h) (Or.inl ⟨by rfl, ?_⟩) (by assumption) ?_
   rotate_left
   ·intro w' hSw; obtain ⟨s1, s2, s3, s4, s5, s6⟩ := HRD.out w' hSw; first | (go_simp; done) | (go_simp; with_reducible rfl)
   try simp only [Act.put]
   refine wpAnyH_done (by kernel_rfl) ?_ _
   have z0 : w5.cell? ⟨g, k, none⟩ = some (.string s) := (HRD.out w5 hb5').2.2.2.2.2
   have hown5 := own_upB HI.out.2.1 hb5'
   have f0 := own_frz hown5 k
   have HN := Lib.hid (show (w5.setCell ⟨g, k, none⟩ (.string t')).ownsRow W0.heap.size 9 1 (.slice (some ⟨g, 0, none⟩) l.length cc) l.length (strs (L.set k t')) ∧ Below W0.heap.size W0 (w5.setCell ⟨g, k, none⟩ (.string t')) ∧ (L.set k t').length = l.length ∧ (L.set k t').map bl = ((wordsOf (bl text)).take (k + 1)).map (foldL A) ++ (wordsOf (bl text)).drop (k + 1) from by
    refine ⟨?_, (HI.out.2.2.1.trans (hb5'.mono hwz)).setCell hgb _, by rw [List.length_set]; exact HL.out, ?_⟩
    ·have := own_set (k := k) hown5 (.string t')
     rwa [show (strs L).set k (.string t') = strs (L.set k t') by simp [strs, List.map_set]] at this
    ·rw [List.map_set, hft]
     have := mix_step (A := (wordsOf (bl text)).map (foldL A)) (B := wordsOf (bl text)) (k := k) (a := foldL A (bl s)) (by rw [List.getElem?_map, HI.out.2.2.2.1]; rfl) (by have := Hll.out; omega)
     rw [← List.map_take, ← List.map_take] at this
     rw [HI.out.1]
     exact this)
   clear hfo hb5 hb5' hown5 hft
   go_wp2_with fail
   exact ⟨⟨k + 1, L.set k t', by omega, by go_num, HN.out.2.2.1, HN.out.2.2.2, HN.out.1, HN.out.2.1⟩, by simp [intOf]; omega⟩
  ·obtain rfl : k = l.length := by omega
   rw [Hll.out, List.take_length, List.drop_length, List.append_nil] at hmap
   obtain ⟨a5, c5, e5, -, hr5⟩ := RowAt.of_own hown
   cases e5
   have HE := Lib.hid (And.intro hmap (And.intro hr5 hbw))
   clear hmap hown hr5 hbk hbw hA
   go_wp2_with fail
   go_ret2
   exact ⟨some ⟨g, 0, none⟩, cc, L, (by rw [hL]; first | rfl | done), HE.out.1, HE.out.2.1, HE.out.2.2⟩
end Go.Proofs.YthachfkcgdfdfaaGreatDoor
