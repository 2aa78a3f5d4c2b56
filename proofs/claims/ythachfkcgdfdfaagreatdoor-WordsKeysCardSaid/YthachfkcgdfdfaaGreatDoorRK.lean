/- Walk: the law WordsKeys. -/
import Derived.Test.YthachfkcgdfdfaaGreatDoorS18
import Derived.Test.YthachfkcgdfdfaaGreatDoorRJ
namespace Go.Proofs.YthachfkcgdfdfaaGreatDoor
open Go.RowKit Go.Shelf Classical

theorem mapB_inj : ∀ {a b : List ByteArray}, a.map bl = b.map bl → a = b
 | [], [], _ => rfl
 | [], _ :: _, h => by simp at h
 | _ :: _, [], h => by simp at h
 | x :: xs, y :: ys, h => by
  rw [List.map_cons, List.map_cons, List.cons.injEq] at h
  rw [bl_inj h.1, mapB_inj h.2]
theorem two_boxes (w : World) (c : Array Value) (t : TypeId) : Blk ((w.alloc (.cells c t)).alloc (.cells c t)).drew w.heap.size c t ∧ Blk ((w.alloc (.cells c t)).alloc (.cells c t)).drew (w.heap.size + 1) c t ∧ Below w.heap.size w ((w.alloc (.cells c t)).alloc (.cells c t)).drew := by
 refine ⟨(Blk.new w c t).alloc _, ?_, (((Below.refl _ w).alloc (Nat.le_refl _) _).alloc (by simp) _).trans (Go.below_drewN (Below.refl _ _) 1)⟩
 have := Blk.new (w.alloc (.cells c t)) c t
 have e : (w.alloc (.cells c t)).heap.size = w.heap.size + 1 := by simp
 rw [e] at this
 exact this
def otherS : ByteArray := ⟨#[111, 116, 104, 101, 114]⟩
theorem other_name : nameB (bl otherS) = true := by decide
theorem empty_is {s : ByteArray} (h : bl s = []) : s = ⟨#[]⟩ := bl_inj (by rw [h]; rfl)
theorem empty_toList : (⟨#[]⟩ : ByteArray).toList.isEmpty = true := by rw [ByteArray.toList_eq]; rfl
theorem full_toList {s : ByteArray} (h : bl s ≠ []) : s.toList.isEmpty = false := by
 rw [ByteArray.toList_eq]
 have h1 : s.data.toList ≠ [] := h
 cases hq : s.data.toList with
 | nil => exact absurd hq h1
 | cons _ _ => rfl
theorem KeyOut.none {b : Brid} {lang : ByteArray} {i : Int} {t s : List UInt8} {e : Int} (h : KeyOut b lang i t s e) (he : e ≠ 0) : s = [] := by
 rcases h with ⟨_, h, _⟩ | ⟨_, _, _, _, ⟨_, h, _⟩ | ⟨_, _, h, _⟩ | ⟨_, _, _, h⟩⟩
 ·exact h
 ·exact h
 ·exact h
 ·exact absurd h he
theorem KeyOut.bad {b : Brid} {lang : ByteArray} {i : Int} {t s : List UInt8} {e : Int} (h : KeyOut b lang i t s e) (hn : ¬ NameOk b lang i t) : s = [] ∧ e = 1 := by
 rcases h with ⟨_, h1, h2⟩ | ⟨h, _⟩
 ·exact ⟨h1, h2⟩
 ·exact absurd h hn
set_option maxRecDepth 100000 in
set_option maxHeartbeats 4000000 in
theorem keys_law (b : Brid) (v : Value) (lang : ByteArray) (i : Int) (text : ByteArray) (w : World) (h : BridAt w w.heap.size v b) (hlang : lang.size ≤ maxLen) (htext : text.size ≤ maxLen) :
  Calls Tryz.prog 5 #[v, .agg #[.string lang, .int .i64 i, .string text]] w fun e w' => e = .returned (.bool true) ∧ Below w.heap.size w w' := by
 obtain ⟨i0, hi, hz0, hz1, hz2⟩ := info_parts info_str17
 have hB := h
 obtain ⟨a, c, a', c', rfl, hl1, hl2, hAs, hRs⟩ := h
 clear hl1 hl2 hAs hRs
 go_enter Tryz.func5, Tryz.ntmps5
 go_upto_region 1 with (fail)
 generalize hW0 : ((w.alloc _).alloc _) = W0
 have hw0 : Below w.heap.size w W0 := by rw [← hW0]; exact ((Below.refl _ _).alloc (Nat.le_refl _) _).alloc (by simp) _
 have hsz : W0.heap.size = w.heap.size + 2 := by rw [← hW0]; simp
 have hbr : Box W0 w.heap.size [.slice a b.scripts.length c, .slice a' b.rules.length c'] := by
  rw [← hW0]; exact (Box.new _ _ _).alloc (by simp) _
 have hba : Box W0 (w.heap.size + 1) [.string lang, .int .i64 i, .string text] := by
  rw [← hW0]; have := (Box.new (w.alloc (.cells #[.slice a b.scripts.length c, .slice a' b.rules.length c'] 25)) [.string lang, .int .i64 i, .string text] 27)
  simp at this; exact this
 have HK := Lib.hid (fun (wr : World) (hb : Below W0.heap.size W0 wr) => (show (wr.cell? ⟨w.heap.size, 0, none⟩ = some (.slice a b.scripts.length c) ∧ wr.cell? ⟨w.heap.size, 1, none⟩ = some (.slice a' b.rules.length c')) ∧ (wr.cell? ⟨w.heap.size + 1, 0, none⟩ = some (.string lang) ∧ wr.cell? ⟨w.heap.size + 1, 1, none⟩ = some (.int .i64 i) ∧ wr.cell? ⟨w.heap.size + 1, 2, none⟩ = some (.string text)) ∧ BridAt wr wr.heap.size (.agg #[.slice a b.scripts.length c, .slice a' b.rules.length c']) b ∧ Below w.heap.size w wr from by
  have hbw : Below w.heap.size w wr := hw0.trans (hb.mono hw0.size)
  exact ⟨(hbr.below hb (by omega)).c2, (hba.below hb (by omega)).c3, (hB.below hbw (Nat.le_refl _)).more hbw.size, hbw⟩))
 clear hW0 hw0 hbr hba hB hsz
 go_upto_region 2 with (go_at_call 9; refine (head17_any W0).mono ?_; rintro e w1 ⟨rfl, hb1⟩)
 obtain ⟨⟨m0, m1⟩, ⟨n0, n1, n2⟩, hB1, -⟩ := HK.out w1 hb1
 have HF := Lib.hid (few17_any b _ lang text i hlang htext w1 hB1)
 have Hb1 := Lib.hid hb1
 clear hb1 hB1
 go_wp2_with fail
 refine HF.out.mono ?_
 rintro e w2 ⟨⟨q, rfl, hq⟩, hb2⟩
 have Hb2 := Lib.hid (Hb1.out.trans (hb2.mono Hb1.out.size))
 clear m0 m1 n0 n1 n2 hb2 HF Hb1
 obtain ⟨⟨m0, m1⟩, ⟨n0, n1, n2⟩, hB2, hw2⟩ := HK.out w2 Hb2.out
 cases q with
 | false =>
  go_wp2_with fail
  go_ret
  exact ⟨rfl, hw2⟩
 | true =>
 have ht450 := hq rfl
 have HKy := Lib.hid (Key_any b _ lang text i hlang (by omega) w2 hB2)
 clear hq hB2 hw2
 go_wp2_with fail
 refine HKy.out.mono ?_
 rintro e w3 ⟨s, err, rfl, hko, hb3⟩
 have Hb3 := Lib.hid (Hb2.out.trans (hb3.mono Hb2.out.size))
 have Hko := Lib.hid hko
 clear m0 m1 n0 n1 n2 hb3 HKy Hb2 hko
 obtain ⟨⟨m0, m1⟩, ⟨n0, n1, n2⟩, hB3, -⟩ := HK.out w3 Hb3.out
 have hv := WValid_any b _ lang text i hlang (by omega) w3 hB3
 by_cases hN : NameOk b lang i (bl text)
 case neg =>
  rw [decide_eq_false hN] at hv
  have HV := Lib.hid hv
  obtain ⟨hs, rfl⟩ := Hko.out.bad hN
  obtain rfl := empty_is hs
  have d1 := empty_toList
  clear hv hN hs hB3
  go_wp2_with fail
  refine HV.out.mono ?_
  rintro e w4 ⟨rfl, hb4⟩
  have HE := Lib.hid (HK.out w4 (Hb3.out.trans (hb4.mono Hb3.out.size))).2.2.2
  clear m0 m1 n0 n1 n2 hb4
  go_wp2_with fail
  go_ret
  exact ⟨rfl, HE.out⟩
 rw [decide_eq_true hN] at hv
 have HV := Lib.hid hv
 have HN := Lib.hid hN
 clear hv hN hB3
 go_wp2_with fail
 refine HV.out.mono ?_
 rintro e w4 ⟨rfl, hb4⟩
 have Hb4 := Lib.hid (Hb3.out.trans (hb4.mono Hb3.out.size))
 clear m0 m1 n0 n1 n2 hb4 HV Hb3
 obtain ⟨⟨m0, m1⟩, ⟨n0, n1, n2⟩, hB4, -⟩ := HK.out w4 Hb4.out
 obtain ⟨A, hA⟩ := HN.out.has
 have HFo := Lib.hid (folded_any b _ lang text i A hA HN.out ht450 w4 hB4)
 have HA := Lib.hid hA
 clear hB4 hA
 go_wp2_with fail
 refine HFo.out.mono ?_
 rintro e w5 ⟨la, lc, L, rfl, hLm, hLr, hb5⟩
 have Hb5 := Lib.hid (Hb4.out.trans (hb5.mono Hb4.out.size))
 have hp := HN.out.parts HA.out
 have hLl : L.length = (wordsOf (bl text)).length := by have := congrArg List.length hLm; simpa using this
 have hL1 : 1 ≤ L.length := by have := hp.2.2.1; omega
 have hL6 : L.length ≤ 6 := by have := hp.2.2.2; omega
 have H5 := Lib.hid (And.intro hLm (And.intro hLr hLl))
 clear m0 m1 n0 n1 n2 hb5 HFo Hb4 hp hLl hLm hLr
 obtain ⟨⟨m0, m1⟩, ⟨n0, n1, n2⟩, -, -⟩ := HK.out w5 Hb5.out
 go_upto_region 10 with (fail)
 go_cut [10, 11] (fun p q wx => ∃ x y : Nat, x ≠ y ∧ w5.heap.size ≤ x ∧ w5.heap.size ≤ y ∧ p = .pointer (some ⟨x, 0, none⟩) ∧ q = .pointer (some ⟨y, 0, none⟩) ∧ Blk wx x #[.string lang, .int .i64 i, .string text] 27 ∧ Blk wx y #[.string lang, .int .i64 i, .string text] 27 ∧ Below w5.heap.size w5 wx)
 case first =>
  go_region_held3 (fun w' => w'.cell? ⟨w.heap.size + 1, 0, none⟩ = some (.string lang) ∧ w'.cell? ⟨w.heap.size + 1, 1, none⟩ = some (.int .i64 i) ∧ w'.cell? ⟨w.heap.size + 1, 2, none⟩ = some (.string text)) (first | exact ⟨n0, n1, n2⟩ | go_keep) (fail)
  all_goals (
   go_wp2_with fail
   go_meet
   have h2 := two_boxes w5 #[.string lang, .int .i64 i, .string text] 27
   first
    | exact ⟨_, _, by omega, by omega, by omega, rfl, rfl, h2.1, h2.2.1, h2.2.2⟩
    | exact ⟨_, _, by omega, by omega, by omega, rfl, rfl, h2.2.1, h2.1, h2.2.2⟩)
 obtain ⟨x, y, hxy, hx5, hy5, rfl, rfl, kx, ky, hb6⟩ := hcut
 obtain ⟨w6, rfl⟩ : ∃ w6 : World, w6 = wc := ⟨_, rfl⟩
 have hN := HN.out
 have hval : Valid10 A := hN.brid.scr.alph A (List.mem_of_getElem? HA.out)
 have hsz : ∀ s ∈ L, s.size ≤ 1000 := fun s hs => by
  have h1 : bl s ∈ (wordsOf (bl text)).map (foldL A) := by rw [← H5.out.1]; exact List.mem_map_of_mem hs
  obtain ⟨p, hp, e⟩ := List.mem_map.1 h1
  have h2 := (fold_word hval (hN.word A HA.out p (by rw [← (hN.parts HA.out).2.1]; exact hp))).2.2.2
  rw [e, bl_length] at h2
  omega
 have HJ := Lib.hid (Join17_any L la lc (by omega) hsz w6 ((H5.out.2.1.below hb6 (Nat.le_refl _)).more hb6.size))
 have c0 : w6.cell? ⟨x, 0, none⟩ = some (.string lang) := kx.cell 0
 have f0 := kx.frozen 0
 have ky1 : Blk (w6.setCell ⟨x, 0, none⟩ (.string ⟨#[111, 116, 104, 101, 114]⟩)) y #[.string lang, .int .i64 i, .string text] 27 := ky.far (p := ⟨x, 0, none⟩) (by show y ≠ x; omega) _
 have c2 : (w6.setCell ⟨x, 0, none⟩ (.string ⟨#[111, 116, 104, 101, 114]⟩)).cell? ⟨y, 2, none⟩ = some (.string text) := ky1.cell 2
 have f2 := ky1.frozen 2
 have H6 := Lib.hid (And.intro kx (And.intro ky1 (And.intro hb6 (And.intro hx5 hy5))))
 have Hxy := Lib.hid hxy
 have hL6' := hL6
 clear hN hval hsz kx ky ky1 hb6 hx5 hy5 hxy n0 n1 n2 m0 m1
 go_wp2_with fail
 refine HJ.out.mono ?_
 rintro e w7 ⟨⟨u, rfl, hu, hus⟩, rfl⟩
 have Hu := Lib.hid (show bl u = joinB ((wordsOf (bl text)).map (foldL A)) from by rw [hu, H5.out.1])
 clear hu HJ
 go_upto_region 12 with (fail)
 generalize hW7 : ((w7.setCell ⟨x, 0, none⟩ _).setCell ⟨y, 2, none⟩ _) = W7
 have kx7 : Blk W7 x #[.string otherS, .int .i64 i, .string text] 27 := by
  rw [← hW7]
  have := (H6.out.1.set_ 0 (.string otherS)).far (p := ⟨y, 2, none⟩) Hxy.out (.string u)
  simpa [otherS] using this
 have ky7 : Blk W7 y #[.string lang, .int .i64 i, .string u] 27 := by
  rw [← hW7]
  have := H6.out.2.1.set_ 2 (.string u)
  simpa using this
 have hb7 : Below w5.heap.size w5 W7 := by rw [← hW7]; exact (H6.out.2.2.1.setCell H6.out.2.2.2.1 _).setCell H6.out.2.2.2.2 _
 have Hb7 := Lib.hid (Hb5.out.trans (hb7.mono Hb5.out.size))
 have H7 := Lib.hid (And.intro kx7 ky7)
 clear hW7 kx7 ky7 hb7 c0 f0 c2 f2 H6
 obtain ⟨⟨m0, m1⟩, -, hB7, -⟩ := HK.out W7 Hb7.out
 have x0 : W7.cell? ⟨x, 0, none⟩ = some (.string otherS) := H7.out.1.cell 0
 have x1 : W7.cell? ⟨x, 1, none⟩ = some (.int .i64 i) := H7.out.1.cell 1
 have x2 : W7.cell? ⟨x, 2, none⟩ = some (.string text) := H7.out.1.cell 2
 have HK1 := Lib.hid (Key_any b _ otherS text i (by unfold maxLen; decide) (by omega) W7 hB7)
 clear hB7
 go_wp2_with fail
 refine HK1.out.mono ?_
 rintro e w8 ⟨t1, f1, rfl, hk1, hb8⟩
 obtain ⟨ht1, rfl⟩ := key_lang HN.out other_name Hko.out hk1
 obtain rfl : t1 = s := bl_inj ht1
 have Hb8 := Lib.hid (Hb7.out.trans (hb8.mono Hb7.out.size))
 have ky8 := H7.out.2.below hb8 H7.out.2.lt
 have H8 := Lib.hid ky8
 clear hk1 ht1 hb8 m0 m1 x0 x1 x2 HK1 Hb7 H7 ky8
 obtain ⟨⟨m0, m1⟩, -, hB8, -⟩ := HK.out w8 Hb8.out
 have x0 : w8.cell? ⟨y, 0, none⟩ = some (.string lang) := H8.out.cell 0
 have x1 : w8.cell? ⟨y, 1, none⟩ = some (.int .i64 i) := H8.out.cell 1
 have x2 : w8.cell? ⟨y, 2, none⟩ = some (.string u) := H8.out.cell 2
 have HK2 := Lib.hid (Key_any b _ lang u i hlang (by omega) w8 hB8)
 clear hB8
 go_wp2_with fail
 refine HK2.out.mono ?_
 rintro e w9 ⟨t2, f2, rfl, hk2, hb9⟩
 rw [Hu.out] at hk2
 obtain ⟨ht2, rfl⟩ := key_fold HN.out HA.out Hko.out hk2
 obtain rfl : t2 = t1 := bl_inj ht2
 have Hb9 := Lib.hid (Hb8.out.trans (hb9.mono Hb8.out.size))
 have H9 := Lib.hid (H8.out.below hb9 H8.out.lt)
 clear hk2 ht2 hb9 m0 m1 x0 x1 x2 HK2 Hb8 H8
 obtain ⟨-, ⟨-, n1, -⟩, -, -⟩ := HK.out w9 Hb9.out
 have x2 : w9.cell? ⟨y, 2, none⟩ = some (.string u) := H9.out.cell 2
 go_upto_region 14 with (fail)
 go_cut [130] (fun c wx => c = .bool false ∧ Below w9.heap.size w9 wx)
 case first =>
  by_cases hi0 : i = 0
  ·subst hi0
   obtain ⟨q1, q2⟩ := key_base HN.out HA.out Hko.out
   rw [← Hu.out] at q1 q2
   rw [bl_length] at q1
   by_cases he : f2 = 0
   ·subst he
    obtain rfl : t2 = u := bl_inj (q2 rfl)
    have hus2 : t2.size ≤ 120 := q1.1 rfl
    clear q1 q2
    go_wp2_with fail
    go_meet
    exact ⟨rfl, Below.refl _ _⟩
   ·have d1 : (f2 == 0) = false := by simpa using he
    have d2 : 120 < u.size := by
     rcases Nat.lt_or_ge 120 u.size with h | h
     ·exact h
     ·exact absurd (q1.2 h) he
    have d3 : decide ((u.size : Int) ≤ 120) = false := decide_eq_false (by omega)
    clear q1 q2 he
    go_wp2_with fail
    go_meet
    exact ⟨rfl, Below.refl _ _⟩
  ·have d0 : (i == 0) = false := by simpa using hi0
   clear hi0
   go_wp2_with fail
   go_meet
   exact ⟨rfl, Below.refl _ _⟩
 obtain ⟨rfl, hbc⟩ := hcut
 have Hb10 := Lib.hid (Hb9.out.trans (hbc.mono Hb9.out.size))
 clear hbc n1 x2 Hb9 H9
 obtain ⟨w10, rfl⟩ : ∃ w10 : World, w10 = wc := ⟨_, rfl⟩
 by_cases he : f2 = 0
 case neg =>
  have d1 : (f2 != 0) = true := by simpa using he
  obtain rfl : t2 = ⟨#[]⟩ := empty_is (Hko.out.none he)
  have d2 := empty_toList
  have HE := Lib.hid (HK.out w10 Hb10.out).2.2.2
  clear he
  go_wp2_with fail
  go_ret
  exact ⟨rfl, HE.out⟩
 subst he
 obtain ⟨outs, ol, oB, -, o120, ow, one⟩ := key_words HN.out Hko.out
 rw [bl_length] at o120
 have hwl : (wordsOf (bl text)).length ≤ 6 := (HN.out.parts HA.out).2.2.2
 have hw1 : 1 ≤ (wordsOf (bl text)).length := (HN.out.parts HA.out).2.2.1
 have HO := Lib.hid (And.intro ol (And.intro oB (And.intro ow one)))
 have HSp := Lib.hid (Split_any t2 (by omega) w10)
 clear ol oB ow one
 go_wp2_with fail
 refine HSp.out.mono ?_
 rintro e w11 ⟨v1, ks, rfl, hks, hok, hb11⟩
 obtain ⟨ka, kc, rfl, -, hrk⟩ := RowAt.of_own hok
 obtain rfl : ks = outs := mapB_inj (hks.trans HO.out.2.2.1)
 have Hb11 := Lib.hid (Hb10.out.trans (hb11.mono Hb10.out.size))
 have H11 := Lib.hid hrk
 clear hks hok hrk hb11 HSp Hb10
 obtain ⟨-, ⟨-, -, n2⟩, -, -⟩ := HK.out (w11.alloc (.cells #[] 9)) (Hb11.out.alloc Hb11.out.size _)
 have HSp2 := Lib.hid (Split_any text (by omega) (w11.alloc (.cells #[] 9)))
 go_wp2_with fail
 refine HSp2.out.mono ?_
 rintro e w12 ⟨v2, l, rfl, hl, hol, hb12⟩
 obtain ⟨sa, sc, rfl, -, hrl⟩ := RowAt.of_own hol
 have hll : l.length = (wordsOf (bl text)).length := by rw [← hl, List.length_map]
 have hown2 := own_below (own_empty w11 9 1) hb12
 have hb120 : Below w11.heap.size w11 w12 := ((Below.refl _ w11).alloc (Nat.le_refl _) _).trans (hb12.mono (by simp))
 have hs20 := hb120.size
 have H12 := Lib.hid (And.intro hl (And.intro hrl (And.intro hown2 hb120)))
 have hl6 : l.length ≤ 6 := by omega
 have hl1' : 1 ≤ l.length := by omega
 have Hll := Lib.hid hll
 clear hl hrl hol hown2 hb12 hb120 HSp2 n2 hll hw1 hwl
 go_wp2_with (at_builtin; refine wpList_append_row rfl _ _ 29 rfl w11.heap.size 9 i0 _ 1 16 Tryz.underlying29 hi hz0 hz1 hz2 rfl (by decide) _ _ _ rfl H12.out.2.2.1 sa l.length sc (strs l) rfl (by simp [strs]) H12.out.2.1 strs_one (by unfold maxLen; omega) (by omega) hs20 ?_)
 intro v3 w13 hown3 hgrow3
 try rw [Nat.zero_add] at hown3
 try rw [List.nil_append] at hown3
 have hb13 : Below w11.heap.size w11 w13 := H12.out.2.2.2.grown hgrow3 hs20 (fun k hk => (H12.out.2.2.1.lt k hk).1)
 obtain ⟨g, cc, rfl⟩ : ∃ g cc, v3 = .slice (some ⟨g, 0, none⟩) l.length cc := by
  rcases hown3.2 with ⟨-, h0⟩ | ⟨g, cap, cur, e, -⟩
  ·omega
  ·exact ⟨g, cap, e⟩
 have H13 := Lib.hid (And.intro hown3 hb13)
 have hgb := (hown3.lt g rfl).1
 have Hl := Lib.hid H12.out.1
 clear hown3 hgrow3 hb13 H12
 go_wp2_with fail
 go_loopw [18, 19] (fun em i wr => ∃ (k : Nat) (X : List ByteArray), k ≤ l.length ∧ em = .bool false ∧ i = .int .i64 k ∧ X.length = l.length ∧ X = ks.take k ++ l.drop k ∧ wr.ownsRow w11.heap.size 9 1 (.slice (some ⟨g, 0, none⟩) l.length cc) l.length (strs X) ∧ Below w11.heap.size w11 wr) (fun _ i _ => l.length - (intOf i).toNat)
 case atStart => exact ⟨0, l, Nat.zero_le _, rfl, rfl, rfl, by simp, H13.out.1, H13.out.2⟩
 case round =>
  obtain ⟨k, X, hk, rfl, rfl, hX, hXe, hown, hbk⟩ := hrel
  by_cases hkl : k < l.length
  ·obtain ⟨⟨m0, m1⟩, ⟨n0, n1, n2⟩, hB, hbw⟩ := HK.out wr (Hb11.out.trans (hbk.mono Hb11.out.size))
   have hkX : k < X.length := by omega
   obtain ⟨s0, hs0⟩ : ∃ s0, X[k] = s0 := ⟨_, rfl⟩
   have hlk : l[k]? = some s0 := by
    have h1 : X[k]? = some s0 := by rw [List.getElem?_eq_getElem hkX, hs0]
    have hkk : (ks.take k).length = k := by rw [List.length_take]; have := HO.out.1; have := Hll.out; omega
    rw [hXe, List.getElem?_append_right (by omega), hkk, Nat.sub_self, List.getElem?_drop, Nat.add_zero] at h1
    exact h1
   have hwk : (wordsOf (bl text))[k]? = some (bl s0) := by rw [← Hl.out, List.getElem?_map, hlk]; rfl
   have hss : s0.size ≤ 450 := by
    have h1 := lenF_mem (L := wordsOf (bl text)) (p := bl s0) (List.mem_of_getElem? hwk)
    have h2 := wordsOf_total (bl text)
    rw [bl_length] at h1 h2
    omega
   obtain ⟨o, ho⟩ : ∃ o, ks[k]? = some o := ⟨_, List.getElem?_eq_getElem (by have := HO.out.1; have := Hll.out; omega)⟩
   have hbase : WriteOut b i 0 s0 o 0 := by
    have := HO.out.2.1 k (bl s0) o hwk ho
    unfold BaseW at this
    rwa [show bs (bl s0) = s0 from bl_inj (bl_bs _)] at this
   have hone := full_toList (HO.out.2.2.2 o (List.mem_of_getElem? ho))
   have hrw : RowAt wr wr.heap.size (some ⟨g, 0, none⟩) (strs X) := by
    obtain ⟨a5, c5, e5, -, hr5⟩ := RowAt.of_own hown
    cases e5
    exact hr5
   obtain ⟨b5, o5, e5, -, hc5⟩ := hrw.strs (by omega)
   cases e5
   have z0 := hc5 k hkX
   rw [hs0, Nat.zero_add] at z0
   have hgl : g < wr.heap.size := (hown.lt g rfl).2
   have hz := hbk.size
   have hz11 := Hb11.out.size
   have HRD := Lib.hid (fun (w' : World) (hb : Below wr.heap.size wr w') => (show (w'.cell? ⟨w.heap.size, 0, none⟩ = some (.slice a b.scripts.length c) ∧ w'.cell? ⟨w.heap.size, 1, none⟩ = some (.slice a' b.rules.length c')) ∧ w'.cell? ⟨w.heap.size + 1, 1, none⟩ = some (.int .i64 i) ∧ w'.cell? ⟨g, k, none⟩ = some (.string s0) ∧ True from by
    have h1 := HK.out w' ((Hb11.out.trans (hbk.mono Hb11.out.size)).trans (hb.mono (Nat.le_trans hz11 hz)))
    exact ⟨h1.1, h1.2.1.2.1, (hb.cell (p := ⟨g, k, none⟩) hgl).trans z0, trivial⟩))
   have HWr := Lib.hid (fun (q : Nat) => Write0_any b (.agg #[.slice a b.scripts.length c, .slice a' b.rules.length c']) i s0 (by unfold maxLen; omega) (wr.drewN q) (hB.below (Go.below_drewN (Below.refl _ _) q) (Nat.le_refl _)))
   have HI := Lib.hid (And.intro hown (And.intro hbk (And.intro hXe (And.intro ho hbase))))
   have HX := Lib.hid hX
   clear m0 m1 n0 n1 n2 hB hbw hkX hs0 hlk hwk hrw hc5 z0 hown hbk hXe ho hbase hX hz11
   go_upto_region 24 with (fail)
   refine wp_region_held_drew (S := fun w' => Below wr.heap.size wr w') (by kernel_rfl) (Go.below_drewN (Below.refl _ wr) 1) (fun hHeld => ?_)
   refine wpAnyH_take (i := 0) (v := ?_) (show _ = some ⟨some 152, _, _, _, _, _⟩ from rfl) (by kernel_rfl) (by kernel_rfl) (by kernel_rfl) (fun _ _ _ h => h) (Or.inl ⟨by kernel_rfl, ?_⟩) (by assumption) ?_
   rotate_left
   ·intro w' hSw; obtain ⟨⟨s1, s1'⟩, s2, s3, s4⟩ := HRD.out w' hSw; first | (go_simp; done) | (go_simp; with_reducible rfl)
   try simp only [Act.put, List.setIfInBounds_toArray, List.set_cons_zero, List.set_cons_succ]
   refine wpAnyH_take (i := 1) (v := ?_) (show _ = some ⟨some 153, _, _, _, _, _⟩ from rfl) (by kernel_rfl) (by kernel_rfl) (by kernel_rfl) (fun _ _ _ h => h) (Or.inl ⟨by kernel_rfl, ?_⟩) (by assumption) ?_
   rotate_left
   ·intro w' hSw; obtain ⟨⟨s1, s1'⟩, s2, s3, s4⟩ := HRD.out w' hSw; first | (go_simp; done) | (go_simp; with_reducible rfl)
   try simp only [Act.put, List.setIfInBounds_toArray, List.set_cons_zero, List.set_cons_succ]
   refine wpAnyH_take (i := 2) (v := ?_) (show _ = some ⟨some 154, _, _, _, _, _⟩ from rfl) (by kernel_rfl) (by kernel_rfl) (by kernel_rfl) (fun _ _ _ h => h) (Or.inl ⟨by kernel_rfl, ?_⟩) (by assumption) ?_
   rotate_left
   ·intro w' hSw; obtain ⟨⟨s1, s1'⟩, s2, s3, s4⟩ := HRD.out w' hSw; first | (go_simp; done) | (go_simp; with_reducible rfl)
   try simp only [Act.put, List.setIfInBounds_toArray, List.set_cons_zero, List.set_cons_succ]
   refine wpAnyH_take (i := 3) (v := ?_) (show _ = some ⟨some 155, _, _, _, _, _⟩ from rfl) (by kernel_rfl) (by kernel_rfl) (by kernel_rfl) (fun _ _ _ h => h) (Or.inl ⟨by kernel_rfl, ?_⟩) (by assumption) ?_
   rotate_left
   ·intro w' hSw; obtain ⟨⟨s1, s1'⟩, s2, s3, s4⟩ := HRD.out w' hSw; first | (go_simp; done) | (go_simp; with_reducible rfl)
   try simp only [Act.put, List.setIfInBounds_toArray, List.set_cons_zero, List.set_cons_succ]
   refine wpAnyH_take (i := 4) (v := ?_) (show _ = some ⟨some 156, _, _, _, _, _⟩ from rfl) (by kernel_rfl) (by kernel_rfl) (by kernel_rfl) (fun _ _ _ h => h) (Or.inl ⟨by kernel_rfl, ?_⟩) (by assumption) ?_
   rotate_left
   ·intro w' hSw; obtain ⟨⟨s1, s1'⟩, s2, s3, s4⟩ := HRD.out w' hSw; first | (go_simp; done) | (go_simp; with_reducible rfl)
   try simp only [Act.put, List.setIfInBounds_toArray, List.set_cons_zero, List.set_cons_succ]
   refine wpAnyH_take (i := 5) (v := ?_) (show _ = some ⟨some 157, _, _, _, _, _⟩ from rfl) (by kernel_rfl) (by kernel_rfl) (by kernel_rfl) (fun _ _ _ h => h) (Or.inl ⟨by kernel_rfl, ?_⟩) (by assumption) ?_
   rotate_left
   ·intro w' hSw; obtain ⟨⟨s1, s1'⟩, s2, s3, s4⟩ := HRD.out w' hSw; first | (go_simp; done) | (go_simp; with_reducible rfl)
   try simp only [Act.put, List.setIfInBounds_toArray, List.set_cons_zero, List.set_cons_succ]
   refine wpAnyH_take (i := 6) (v := ?_) (show _ = some ⟨some 158, _, _, _, _, _⟩ from rfl) (by kernel_rfl) (by kernel_rfl) (by kernel_rfl) (fun _ _ _ h => h) (Or.inl ⟨by kernel_rfl, ?_⟩) (by assumption) ?_
   rotate_left
   ·intro w' hSw; obtain ⟨⟨s1, s1'⟩, s2, s3, s4⟩ := HRD.out w' hSw; first | (go_simp; done) | (go_simp; with_reducible rfl)
   try simp only [Act.put, List.setIfInBounds_toArray, List.set_cons_zero, List.set_cons_succ]
   refine wpAnyH_ready (rs := [7]) (by kernel_rfl) (by simp) ?_
   refine AllReadyH.cons (show _ = some ⟨some 159, _, _, _, _, _⟩ from rfl) (fun K hK => ?_) AllReadyH.nil
   go_simp
   go_at_call 26
   refine (HWr.out 1).mono ?_
   rintro e w15 ⟨t', err, rfl, hwo, hb15⟩
   obtain ⟨rfl, rfl⟩ := WriteOut.uniq hwo HI.out.2.2.2.2
   have hb15' : Below wr.heap.size wr w15 := (Go.below_drewN (Below.refl _ wr) 1).trans hb15
   clear hwo hb15
   go_simp
   refine hK.out _ _ hb15' (fun _ => ?_)
   clear hK K
   try simp only [Act.put, List.setIfInBounds_toArray, List.set_cons_zero, List.set_cons_succ]
   refine wpAnyH_take (i := 8) (v := ?_) (show _ = some ⟨some 151, _, _, _, _, _⟩ from rfl) (by kernel_rfl) (by kernel_rfl) (by kernel_rfl) (fun _ _ _ h => h) (Or.inl ⟨by kernel_rfl, ?_⟩) (by assumption) ?_
   rotate_left
   ·intro w' hSw; obtain ⟨⟨s1, s1'⟩, s2, s3, s4⟩ := HRD.out w' hSw; first | (go_simp; done) | (go_simp; with_reducible rfl)
   try simp only [Act.put, List.setIfInBounds_toArray, List.set_cons_zero, List.set_cons_succ]
   refine wpAnyH_take (i := 9) (v := ?_) (show _ = some ⟨some 160, _, _, _, _, _⟩ from rfl) (by kernel_rfl) (by kernel_rfl) (by kernel_rfl) (fun _ _ _ h => h) (Or.inl ⟨by kernel_rfl, ?_⟩) (by assumption) ?_
   rotate_left
   ·intro w' hSw; obtain ⟨⟨s1, s1'⟩, s2, s3, s4⟩ := HRD.out w' hSw; first | (go_simp; done) | (go_simp; with_reducible rfl)
   try simp only [Act.put, List.setIfInBounds_toArray, List.set_cons_zero, List.set_cons_succ]
   refine wpAnyH_take (i := 10) (v := ?_) (show _ = some ⟨some 161, _, _, _, _, _⟩ from rfl) (by kernel_rfl) (by kernel_rfl) (by kernel_rfl) (fun _ _ _ h => h) (Or.inl ⟨by kernel_rfl, ?_⟩) (by assumption) ?_
   rotate_left
   ·intro w' hSw; obtain ⟨⟨s1, s1'⟩, s2, s3, s4⟩ := HRD.out w' hSw; first | (go_simp; done) | (go_simp; with_reducible rfl)
   try simp only [Act.put, List.setIfInBounds_toArray, List.set_cons_zero, List.set_cons_succ]
   refine wpAnyH_take (i := 11) (v := ?_) (show _ = some ⟨some 20, _, _, _, _, _⟩ from rfl) (by kernel_rfl) (by kernel_rfl) (by kernel_rfl) (fun _ _ _ h => h) (Or.inl ⟨by kernel_rfl, ?_⟩) (by assumption) ?_
   rotate_left
   ·intro w' hSw; obtain ⟨⟨s1, s1'⟩, s2, s3, s4⟩ := HRD.out w' hSw; first | (go_simp; done) | (go_simp; with_reducible rfl)
   try simp only [Act.put, List.setIfInBounds_toArray, List.set_cons_zero, List.set_cons_succ]
   refine wpAnyH_take (i := 12) (v := ?_) (show _ = some ⟨some 21, _, _, _, _, _⟩ from rfl) (by kernel_rfl) (by kernel_rfl) (by kernel_rfl) (fun _ _ _ h => h) (Or.inl ⟨by kernel_rfl, ?_⟩) (by assumption) ?_
   rotate_left
   ·intro w' hSw; obtain ⟨⟨s1, s1'⟩, s2, s3, s4⟩ := HRD.out w' hSw; first | (go_simp; done) | (go_simp; with_reducible rfl)
   try simp only [Act.put, List.setIfInBounds_toArray, List.set_cons_zero, List.set_cons_succ]
   refine wpAnyH_done (by kernel_rfl) ?_ _
   have y0 : w15.cell? ⟨g, k, none⟩ = some (.string s0) := (HRD.out w15 hb15').2.2.1
   have hown15 := own_upB HI.out.1 hb15'
   have fr := own_frz hown15 k
   have HN2 := Lib.hid (show (w15.setCell ⟨g, k, none⟩ (.string t')).ownsRow w11.heap.size 9 1 (.slice (some ⟨g, 0, none⟩) l.length cc) l.length (strs (X.set k t')) ∧ Below w11.heap.size w11 (w15.setCell ⟨g, k, none⟩ (.string t')) ∧ (X.set k t').length = l.length ∧ X.set k t' = ks.take (k + 1) ++ l.drop (k + 1) from by
    refine ⟨?_, (HI.out.2.1.trans (hb15'.mono hz)).setCell hgb _, by rw [List.length_set]; exact HX.out, ?_⟩
    ·have := own_set (k := k) hown15 (.string t')
     rwa [show (strs X).set k (.string t') = strs (X.set k t') by simp [strs, List.map_set]] at this
    ·rw [HI.out.2.2.1]
     exact mix_step HI.out.2.2.2.1 hkl)
   clear hb15' hown15
   go_wp2_with fail
   exact ⟨⟨k + 1, X.set k t', by omega, rfl, by go_num, HN2.out.2.2.1, HN2.out.2.2.2, HN2.out.1, HN2.out.2.1⟩, by simp [intOf]; omega⟩
  ·obtain rfl : k = l.length := by omega
   have hXk : X = ks := by
    have h1 : ks.length = l.length := by have := HO.out.1; have := Hll.out; omega
    rw [hXe, ← h1, List.take_length, h1, List.drop_length, List.append_nil]
   obtain ⟨a5, c5, e5, -, hr5⟩ := RowAt.of_own hown
   cases e5
   have hT := Texts17_q ks X ka (some ⟨g, 0, none⟩) kc cc wr.heap.size (by have := HO.out.1; have := Hll.out; unfold maxLen; omega) wr ((H11.out.below hbk (Nat.le_refl _)).more hbk.size) hr5
   rw [decide_eq_true hXk.symm, hX] at hT
   have HT := Lib.hid hT
   have HE := Lib.hid (HK.out wr (Hb11.out.trans (hbk.mono Hb11.out.size))).2.2.2
   clear hX hXe hXk hown hbk hr5 hT
   go_wp2_with fail
   refine HT.out.mono ?_
   rintro e w16 ⟨rfl, q, hq⟩
   have HE2 := Lib.hid (show Below w.heap.size w w16 from by rw [hq]; exact Go.below_drewN HE.out q)
   clear hq
   go_wp2_with fail
   go_ret
   exact ⟨rfl, HE2.out⟩
end Go.Proofs.YthachfkcgdfdfaaGreatDoor
