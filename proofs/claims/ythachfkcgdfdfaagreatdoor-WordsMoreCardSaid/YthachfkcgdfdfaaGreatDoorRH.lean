/- Walk: the law WordsMore. -/
import Derived.Test.YthachfkcgdfdfaaGreatDoorS21
namespace Go.Proofs.YthachfkcgdfdfaaGreatDoor
open Go.RowKit Go.Shelf Classical

theorem rev_step {l : List Sht} {j : Nat} (hj : j < l.length) : (l.drop j).reverse = (l.drop (j + 1)).reverse ++ [l[j]] := by
 rw [List.drop_eq_getElem_cons hj, List.reverse_cons]
theorem cells_snoc (L : List Sht) (s : Sht) : ((L ++ [s]).map Sht.cells).flatten = (L.map Sht.cells).flatten ++ s.cells := by
 rw [List.map_append, List.flatten_append]
 simp
theorem one_short {w : World} {p : Nat} {s : Sht} (h : Box w p s.cells) (hp : p < w.heap.size) : RowsAt w w.heap.size 4 (some ⟨p, 0, none⟩) ([s].map Sht.cells) := fun _ => by
 refine ⟨p, 0, rfl, hp, fun i r hi j x hj => ?_⟩
 rcases i with _ | i
 ·obtain rfl : s.cells = r := by simpa using hi
  have := h j x hj
  simpa using this
 ·simp at hi
theorem Shts.of_own {w : World} {base : Nat} {v : Value} {n : Nat} {L : List Sht} (h : w.ownsRow base 54 4 v n (L.map Sht.cells).flatten) (hn : L.length = n) :
  ∃ a c, v = .slice a L.length c ∧ RowsAt w w.heap.size 4 a (L.map Sht.cells) := by
 obtain ⟨a, c, e, -, hr⟩ := RowAt.of_own h
 exact ⟨a, c, by rw [hn]; exact e, hr.rows (shts_len L) (by decide)⟩
theorem info_sht17 : (Tryz.prog.info? 54).map (fun i => (i.zero, i.size, i.bytes)) = some (some (.agg #[.string ByteArray.empty, .string ByteArray.empty, .string ByteArray.empty, .int .i64 0]), 4, 56) := by kernel_rfl
theorem row_sht_new (w : World) (s : Sht) : RowAt (w.alloc (.cells #[.string s.lang, .string s.short, .string s.full, .int .i64 s.cost] 54)) (w.heap.size + 1) (some ⟨w.heap.size, 0, none⟩) s.cells := fun _ =>
 ⟨w.heap.size, 0, rfl, Nat.lt_succ_self _, fun i u hu => by rw [Nat.zero_add]; exact Box.new w s.cells 54 i u hu⟩
theorem cells_one (s : Sht) : ∀ u ∈ s.cells, u.oneCell' = true := fun u hu => by
 simp only [Sht.cells, List.mem_cons, List.not_mem_nil, or_false] at hu
 rcases hu with rfl | rfl | rfl | rfl <;> rfl
theorem hown_ne {w : World} {base : Nat} {e : TypeId} {size n : Nat} {v : Value} {xs : List Value} (h : w.ownsRow base e size v n xs) : v.ownBlock ≠ some (⟨w.heap.size, 0, none⟩ : Addr).block := fun e => by
 have := (h.lt _ e).2
 simp at this
def othS : ByteArray := ⟨#[111, 116, 104, 101, 114]⟩
theorem other_fits {l : List Sht} (h : ∀ s ∈ l, s.fits) : ∀ s ∈ l.map (Sht.other othS), s.fits := fun s hs => by
 obtain ⟨x, hx, rfl⟩ := List.mem_map.1 hs
 exact ⟨by show othS.size ≤ maxLen; unfold maxLen; decide, (h x hx).2.1, (h x hx).2.2⟩
set_option maxRecDepth 100000 in
set_option maxHeartbeats 4000000 in
theorem more_law (l : List Sht) (W : List ByteArray) (s : Sht) (la wa : Option Addr) (lc wcp : Nat) (w : World) (hl : l.length ≤ maxLen) (hfit : ∀ s ∈ l, s.fits) (hW : W.length ≤ maxLen) (hWs : ∀ s ∈ W, s.size ≤ maxLen) (hs : s.fits)
  (hla : RowsAt w w.heap.size 4 la (l.map Sht.cells)) (hwa : RowAt w w.heap.size wa (strs W)) :
  Calls Tryz.prog 7 #[.slice la l.length lc, .slice wa W.length wcp, shtV s] w fun e w' => e = .returned (.bool true) ∧ Below w.heap.size w w' := by
 obtain ⟨i0, hi, hz0, hz1, hz2⟩ := info_parts info_sht17
 unfold shtV
 go_enter Tryz.func7, Tryz.ntmps7
 go_upto_region 1 with (fail)
 generalize hW0 : (w.alloc _) = W0
 have hw0 : Below w.heap.size w W0 := by rw [← hW0]; exact (Below.refl _ _).alloc (Nat.le_refl _) _
 have hsz : W0.heap.size = w.heap.size + 1 := by rw [← hW0]; simp
 have hbx : Box W0 w.heap.size s.cells := by rw [← hW0]; exact Box.new w s.cells 54
 have HR := Lib.hid (fun (wr : World) (hb : Below W0.heap.size W0 wr) => (show RowsAt wr wr.heap.size 4 la (l.map Sht.cells) ∧ RowAt wr wr.heap.size wa (strs W) ∧ Box wr w.heap.size s.cells ∧ Below w.heap.size w wr from by
  have hbw : Below w.heap.size w wr := hw0.trans (hb.mono hw0.size)
  exact ⟨(hla.below hbw (Nat.le_refl _)).more hbw.size, (hwa.below hbw (Nat.le_refl _)).more hbw.size, hbx.below hb (by omega), hbw⟩))
 clear hW0 hw0 hbx hla hwa hsz
 go_upto_region 2 with (go_at_call 9; refine (head17_any W0).mono ?_; rintro e w1 ⟨rfl, hb1⟩)
 obtain ⟨r1, r2, r3, r4⟩ := HR.out w1 hb1
 have Hb1 := Lib.hid (And.intro hb1 r4)
 have HF1 := Lib.hid (Few17_any l W la wa lc wcp hl hW hfit hWs w1 r1 r2)
 have HF2 := Lib.hid (Few17_any [s] [] (some ⟨w1.heap.size, 0, none⟩) none 1 0 (by show 1 ≤ maxLen; unfold maxLen; decide) (Nat.zero_le _) (fun x hx => by obtain rfl := List.mem_singleton.1 hx; exact hs) (fun x hx => by simp at hx) (w1.alloc (.cells #[.string s.lang, .string s.short, .string s.full, .int .i64 s.cost] 54)) (one_short (Box.new w1 s.cells 54) (by simp)) (fun h => by simp [strs] at h))
 obtain ⟨m0, m1, m2, m3⟩ := Box.c4 r3
 clear r1 r2 r3 r4 hb1 hWs
 go_wp2_with fail
 refine HF1.out.mono ?_
 rintro e w2 ⟨⟨q, rfl, hq⟩, rfl⟩
 cases q with
 | false =>
  go_wp2_with fail
  go_ret
  exact ⟨rfl, Hb1.out.2⟩
 | true =>
 have Hq := Lib.hid (hq rfl)
 clear hq
 go_wp2_with fail
 generalize hW2 : (w2.alloc _) = W2 at HF2 ⊢
 have Hb2 := Lib.hid (show Below W0.heap.size W0 W2 from by rw [← hW2]; exact Hb1.out.1.alloc Hb1.out.1.size _)
 clear hW2 m0 m1 m2 m3 Hb1
 refine HF2.out.mono ?_
 rintro e w3 ⟨⟨q, rfl, -⟩, rfl⟩
 obtain ⟨r1, r2, -, r4⟩ := HR.out w3 Hb2.out
 cases q with
 | false =>
  go_wp2_with fail
  go_ret
  exact ⟨rfl, r4⟩
 | true =>
 have HS1 := Lib.hid (Spell_any l W la wa lc wcp hl hfit hW w3 r1 r2)
 clear r1 r2 r4 HF1 HF2
 go_wp2_with fail
 refine HS1.out.mono ?_
 rintro e w4 hp
 obtain ⟨a1, c1, L1, e1, rfl, hs1, hL1, hb4⟩ := hp.read
 have Hb4 := Lib.hid (Hb2.out.trans (hb4.mono Hb2.out.size))
 have H4 := Lib.hid (And.intro hs1 hL1)
 clear hp hs1 hL1 hb4 HS1 Hb2
 have hl110 : l.length ≤ 110 := Hq.out.1
 have hwl : IntKind.i64.wrap ((l.length : Int) - 1) = (l.length : Int) - 1 := IntWalk.i64_in _ (by omega)
 go_wp2_with fail
 go_loopw [10, 12] (fun v i wr => ∃ (k : Nat) (z : Int) (R : List Sht), k ≤ l.length ∧ i = .int .i64 z ∧ z = (k : Int) - 1 ∧ R = (l.drop k).reverse ∧ wr.ownsRow w4.heap.size 54 4 v R.length (R.map Sht.cells).flatten ∧ Below w4.heap.size w4 wr) (fun _ i _ => (intOf i + 1).toNat)
 case atStart => exact ⟨l.length, _, [], Nat.le_refl _, rfl, rfl, (by simp), World.ownsRow_nil _ _ _ _, Below.refl _ _⟩
 case round =>
  clear hwl
  obtain ⟨k, z, R, hk, rfl, hz, hR, hown, hbk⟩ := hrel
  have hRl : R.length ≤ 110 := by rw [hR, List.length_reverse, List.length_drop]; omega
  rcases k with _ | j
  case succ =>
   obtain rfl : z = (j : Int) := by omega
   have hjl : j < l.length := by omega
   obtain ⟨r1, -, -, -⟩ := HR.out wr (Hb4.out.trans (hbk.mono Hb4.out.size))
   obtain ⟨g, o, rfl, hg, hc⟩ := r1.shts (by omega)
   obtain ⟨k0, k1, k2, k3⟩ := hc j hjl
   have hrev := rev_step hjl
   obtain ⟨x, hx⟩ : ∃ x, l[j] = x := ⟨_, rfl⟩
   rw [hx] at k0 k1 k2 k3 hrev
   have hszr := hbk.size
   have Hown := Lib.hid (And.intro hown (And.intro hbk (show (l.drop j).reverse = R ++ [x] from by rw [hR]; exact hrev)))
   have hwj : IntKind.i64.wrap ((j : Int) - 1) = (j : Int) - 1 := IntWalk.i64_in _ (by omega)
   clear hc hx hown hbk hrev r1 hz hR
   go_wp2_with (at_builtin; refine wpList_append_row rfl _ _ 28 rfl w4.heap.size 54 i0 _ 4 56 Tryz.underlying28 hi hz0 hz1 hz2 rfl (by decide) _ _ _ rfl (Hown.out.1.alloc _) (some ⟨wr.heap.size, 0, none⟩) 1 1 x.cells rfl rfl (row_sht_new _ _) (cells_one _) (by unfold maxLen; omega) (by omega) (by simp; omega) ?_)
   intro v' w5 hown5 hgrow5
   have hb5 : Below w4.heap.size w4 w5 := (Hown.out.2.1.alloc hszr _).grown hgrow5 (by simp; omega) (fun k hk => (Hown.out.1.lt k hk).1)
   rw [← cells_snoc, show R.length + 1 = (R ++ [x]).length by simp] at hown5
   have H5 := Lib.hid (And.intro hown5 hb5)
   clear hown5 hb5 hgrow5
   go_wp2_with fail
   exact ⟨⟨j, (j : Int) - 1, R ++ [x], by omega, rfl, rfl, Hown.out.2.2.symm, H5.out.1, H5.out.2⟩, by simp [intOf]⟩
  obtain rfl : z = -1 := by omega
  rw [List.drop_zero] at hR
  obtain ⟨ba, bc, rfl, hback⟩ := Shts.of_own hown rfl
  have H6 := Lib.hid (And.intro hback hbk)
  have HRv := Lib.hid hR
  clear hown hback hbk hz hR
  obtain ⟨wo, rfl⟩ : ∃ wo : World, wo = wr := ⟨_, rfl⟩
  go_wp2_with fail
  go_loopw [11, 13] (fun v i wr => ∃ (k : Nat) (O : List Sht) (vv : Value), vv = v ∧ k ≤ l.length ∧ i = .int .i64 k ∧ O = (l.take k).map (Sht.other othS) ∧ wr.ownsRow wo.heap.size 54 4 vv O.length (O.map Sht.cells).flatten ∧ Below wo.heap.size wo wr) (fun _ i _ => l.length - (intOf i).toNat)
  case atStart => exact ⟨0, [], _, rfl, Nat.zero_le _, rfl, rfl, World.ownsRow_nil _ _ _ _, Below.refl _ _⟩
  case round =>
   obtain ⟨k, O, vv, rfl, hk, rfl, hO, hown, hbk⟩ := hrel
   have hOl : O.length ≤ 110 := by rw [hO, List.length_map, List.length_take]; omega
   by_cases hkl : k < l.length
   ·have hb4' := Hb4.out.trans (H6.out.2.mono Hb4.out.size)
    obtain ⟨r1, -, -, -⟩ := HR.out wr (hb4'.trans (hbk.mono hb4'.size))
    obtain ⟨g, o, rfl, hg, hc⟩ := r1.shts (by omega)
    obtain ⟨k0, k1, k2, k3⟩ := hc k hkl
    have htk : (l.take (k + 1)).map (Sht.other othS) = (l.take k).map (Sht.other othS) ++ [Sht.other othS l[k]] := by rw [List.take_succ_eq_append_getElem hkl, List.map_append]; rfl
    obtain ⟨x, hx⟩ : ∃ x, l[k] = x := ⟨_, rfl⟩
    rw [hx] at k0 k1 k2 k3 htk
    have Hown := Lib.hid (And.intro hown (And.intro hbk (show (l.take (k + 1)).map (Sht.other othS) = O ++ [Sht.other othS x] from by rw [hO]; exact htk)))
    have hszr := hbk.size
    clear hc hx hown hbk htk r1 hb4' hO
    go_upto_region 14 with (fail)
    generalize hW8 : (wr.alloc _) = W8
    have b8 : Below wo.heap.size wo W8 := by rw [← hW8]; exact Hown.out.2.1.alloc hszr _
    have kb : Blk W8 wr.heap.size #[.string x.lang, .string x.short, .string x.full, .int .i64 x.cost] 54 := by rw [← hW8]; exact Blk.new _ _ _
    have ho8 : W8.ownsRow wo.heap.size 54 4 vv O.length (O.map Sht.cells).flatten := by rw [← hW8]; exact Hown.out.1.alloc _
    have hne := hown_ne Hown.out.1
    clear hW8 k0 k1 k2 k3
    have f0 := kb.frozen 0
    have q0 : W8.cell? ⟨wr.heap.size, 0, none⟩ = some (.string x.lang) := kb.cell 0
    have H8 := Lib.hid (And.intro b8 (And.intro kb (And.intro ho8 hne)))
    clear b8 kb ho8 hne
    go_upto_region 15 with (fail)
    generalize hW9 : (W8.setCell ⟨wr.heap.size, 0, none⟩ _) = W9
    have kb : Blk W9 wr.heap.size #[.string othS, .string x.short, .string x.full, .int .i64 x.cost] 54 := by rw [← hW9]; have := H8.out.2.1.set_ 0 (.string othS); simpa [othS] using this
    have b9 : Below wo.heap.size wo W9 := by rw [← hW9]; exact H8.out.1.setCell hszr _
    have ho9 : W9.ownsRow wo.heap.size 54 4 vv O.length (O.map Sht.cells).flatten := by rw [← hW9]; exact own_setCell H8.out.2.2.1 H8.out.2.2.2 _
    have s0 := kb.cell 0
    have s1 := kb.cell 1
    have s2 := kb.cell 2
    have s3 := kb.cell 3
    simp only [List.getElem?_toArray, List.getElem?_cons_zero, List.getElem?_cons_succ] at s0 s1 s2 s3
    have hsz9 := b9.size
    have H9 := Lib.hid (And.intro b9 ho9)
    clear hW9 kb b9 ho9 f0 q0
    go_wp2_with (at_builtin; refine wpList_append_row rfl _ _ 28 rfl wo.heap.size 54 i0 _ 4 56 Tryz.underlying28 hi hz0 hz1 hz2 rfl (by decide) _ _ _ rfl (H9.out.2.alloc _) (some ⟨W9.heap.size, 0, none⟩) 1 1 (Sht.other othS x).cells rfl rfl (row_sht_new _ _) (cells_one _) (by unfold maxLen; omega) (by omega) (by simp; omega) ?_)
    intro v' w5 hown5 hgrow5
    have hb5 : Below wo.heap.size wo w5 := (H9.out.1.alloc hsz9 _).grown hgrow5 (by simp; omega) (fun k hk => (H9.out.2.lt k hk).1)
    rw [← cells_snoc, show O.length + 1 = (O ++ [Sht.other othS x]).length by simp] at hown5
    have H5 := Lib.hid (And.intro hown5 hb5)
    clear hown5 hb5 hgrow5 s0 s1 s2 s3
    go_wp2_with fail
    exact ⟨⟨k + 1, O ++ [Sht.other othS x], _, rfl, by omega, by go_num, Hown.out.2.2.symm, H5.out.1, H5.out.2⟩, by simp [intOf]; omega⟩
   obtain rfl : k = l.length := by omega
   rw [List.take_length] at hO
   obtain ⟨oa, oc, rfl, hoth⟩ := Shts.of_own hown rfl
   have HOv := Lib.hid hO
   have Hb7 := Lib.hid (Hb4.out.trans ((H6.out.2.mono Hb4.out.size).trans (hbk.mono (Nat.le_trans Hb4.out.size H6.out.2.size))))
   have H7 := Lib.hid (And.intro ((H6.out.1.below hbk (Nat.le_refl _)).more hbk.size) (And.intro hoth ((H4.out.2.below (H6.out.2.trans (hbk.mono H6.out.2.size)) (Nat.le_refl _)).more (Nat.le_trans H6.out.2.size hbk.size))))
   clear hown hoth hbk hO
   obtain ⟨wq, rfl⟩ : ∃ wq : World, wq = wr := ⟨_, rfl⟩
   obtain ⟨-, r2, -, -⟩ := HR.out wq Hb7.out
   have hS2 := Spell_any R W ba wa bc wcp (by unfold maxLen; omega) (fun s hs => hfit s (List.mem_reverse.1 (by rw [HRv.out] at hs; exact hs))) hW wq H7.out.1 r2
   have HS2 := Lib.hid hS2
   clear hS2 r2 H6
   go_wp2_with fail
   refine HS2.out.mono ?_
   rintro e w8 hp
   obtain ⟨a2, c2, L2, e2, rfl, hs2, hL2, hb8⟩ := hp.read
   obtain ⟨hkey, hee⟩ := SpellOf.same (m := R) (fun w t c => by rw [HRv.out]; exact cost_rev w t c) (by rw [HRv.out]; exact proper_rev) H4.out.1 hs2
   obtain rfl : e1 = e2 := hee
   have Hb8 := Lib.hid (Hb7.out.trans (hb8.mono Hb7.out.size))
   have n1 : L1.length ≤ 64 := by have := H4.out.1.err.1; rwa [List.length_map] at this
   have n2 : L2.length ≤ 64 := by have := hs2.err.1; rwa [List.length_map] at this
   have H8 := Lib.hid (And.intro ((H7.out.2.1.below hb8 (Nat.le_refl _)).more hb8.size) ((H7.out.2.2.below hb8 (Nat.le_refl _)).more hb8.size))
   have hsm := Same_any L1 L2 a1 a2 c1 c2 (by unfold maxLen; omega) (by unfold maxLen; omega) w8 H8.out.2 hL2
   rw [decide_eq_true hkey] at hsm
   have HSm := Lib.hid hsm
   clear hp hs2 hL2 hb8 hkey hsm HS2 H7 Hb7
   go_wp2_with fail
   refine HSm.out.mono ?_
   rintro e w9 ⟨rfl, q, hq⟩
   have hb9 : Below w8.heap.size w8 w9 := by rw [hq]; exact Go.below_drewN (Below.refl _ _) q
   have Hb9 := Lib.hid (Hb8.out.trans (hb9.mono Hb8.out.size))
   have H9 := Lib.hid (And.intro ((H8.out.1.below hb9 (Nat.le_refl _)).more hb9.size) ((H8.out.2.below hb9 (Nat.le_refl _)).more hb9.size))
   clear hq hb9 HSm H8 Hb8
   go_upto_region 19 with (fail)
   go_cut [91] (fun c wx => ∃ q : Bool, c = .bool q ∧ (q = true → Proper l ∧ Proper O) ∧ Below w9.heap.size w9 wx)
   case first =>
    obtain ⟨r1, -, -, -⟩ := HR.out w9 Hb9.out
    have hp1 := Proper_any l la lc hl hfit w9 r1
    by_cases hP : Proper l
    ·rw [decide_eq_true hP] at hp1
     have HP1 := Lib.hid hp1
     have HP := Lib.hid hP
     clear r1 hp1 hP
     go_wp2_with fail
     refine HP1.out.mono ?_
     rintro e wa2 ⟨rfl, hba⟩
     have hp2 := Proper_any O oa oc (by unfold maxLen; omega) (by rw [HOv.out]; exact other_fits hfit) wa2 ((H9.out.1.below hba (Nat.le_refl _)).more hba.size)
     have HP2 := Lib.hid hp2
     have Hba := Lib.hid hba
     clear hp2 hba HP1
     go_wp2_with fail
     refine HP2.out.mono ?_
     rintro e wb2 ⟨rfl, hbb⟩
     have Hbb := Lib.hid (Hba.out.trans (hbb.mono Hba.out.size))
     clear hbb HP2
     go_wp2_with fail
     go_meet
     exact ⟨_, rfl, fun h => ⟨HP.out, of_decide_eq_true h⟩, Hbb.out⟩
    ·rw [decide_eq_false hP] at hp1
     have HP1 := Lib.hid hp1
     clear r1 hp1 hP
     go_wp2_with fail
     refine HP1.out.mono ?_
     rintro e wa2 ⟨rfl, hba⟩
     have Hba := Lib.hid hba
     clear hba HP1
     go_wp2_with fail
     go_meet
     exact ⟨_, rfl, fun h => (by cases h), Hba.out⟩
   obtain ⟨q, rfl, hq, hbc⟩ := hcut
   have Hbc := Lib.hid (Hb9.out.trans (hbc.mono Hb9.out.size))
   have Hc := Lib.hid (And.intro ((H9.out.1.below hbc (Nat.le_refl _)).more hbc.size) ((H9.out.2.below hbc (Nat.le_refl _)).more hbc.size))
   have Hq2 := Lib.hid hq
   clear hq hbc H9 Hb9
   obtain ⟨wd, rfl⟩ : ∃ wd : World, wd = wc := ⟨_, rfl⟩
   go_upto_if 91 with (fail)
   go_cut [] (fun wx => Below wd.heap.size wd wx)
   case first =>
    cases q with
    | false =>
     go_wp2_with fail
     go_meet
     exact Below.refl _ _
    | true =>
     obtain ⟨hP1, hP2⟩ := Hq2.out rfl
     obtain ⟨-, r2, -, -⟩ := HR.out wd Hbc.out
     have hS3 := Spell_any O W oa wa oc wcp (by unfold maxLen; omega) (by rw [HOv.out]; exact other_fits hfit) hW wd Hc.out.1 r2
     have HS3 := Lib.hid hS3
     have HPP := Lib.hid (show Proper l ↔ Proper O from ⟨fun _ => hP2, fun _ => hP1⟩)
     clear hS3 r2 hP1 hP2
     go_wp2_with fail
     refine HS3.out.mono ?_
     rintro e w11 hp
     obtain ⟨a3, c3, L3, e3, rfl, hs3, hL3, hb11⟩ := hp.read
     obtain ⟨hkey, hee⟩ := SpellOf.same (m := O) (fun w t c => by rw [HOv.out]; exact cost_other othS w t c) HPP.out H4.out.1 hs3
     obtain rfl : e1 = e3 := hee
     have n3 : L3.length ≤ 64 := by have := hs3.err.1; rwa [List.length_map] at this
     have hsm := Same_any L1 L3 a1 a3 c1 c3 (by unfold maxLen; omega) (by unfold maxLen; omega) w11 ((Hc.out.2.below hb11 (Nat.le_refl _)).more hb11.size) hL3
     rw [decide_eq_true hkey] at hsm
     have HSm := Lib.hid hsm
     have Hb11 := Lib.hid hb11
     clear hp hs3 hL3 hb11 hkey hsm HS3
     go_wp2_with fail
     refine HSm.out.mono ?_
     rintro e w12 ⟨rfl, q, hq⟩
     have Hb12 := Lib.hid (show Below wd.heap.size wd w12 from by rw [hq]; exact Go.below_drewN Hb11.out q)
     clear hq HSm
     go_wp2_with fail
     go_meet
     exact Hb12.out
   have Hb10 := Lib.hid (Hbc.out.trans (hcut.mono Hbc.out.size))
   have H10 := Lib.hid ((Hc.out.2.below hcut (Nat.le_refl _)).more hcut.size)
   clear hcut Hc Hbc Hq2
   obtain ⟨w10, rfl⟩ : ∃ w10 : World, w10 = wc := ⟨_, rfl⟩
   go_upto_region 23 with (fail)
   go_cut [19] (fun v wx => ∃ (ma : Option Addr) (mc : Nat), v = .slice ma (l.length + 1) mc ∧ RowsAt wx wx.heap.size 4 ma ((l ++ [s]).map Sht.cells) ∧ Below w10.heap.size w10 wx)
   case first =>
    have hb10 := Hb10.out
    have HBX := Lib.hid (fun (w' : World) (hb : Below w10.heap.size w10 w') => Box.c4 (HR.out w' (hb10.trans (hb.mono hb10.size))).2.2.1)
    have HRL := Lib.hid (fun (w' : World) (hb : Below w10.heap.size w10 w') => (HR.out w' (hb10.trans (hb.mono hb10.size))).1.flat (shts_len l))
    have HD := Lib.hid (fun (v : Value) (wx : World) (hown : wx.ownsRow w10.heap.size 54 4 v (l.length + 1) ((l.map Sht.cells).flatten ++ s.cells)) (hb : Below w10.heap.size w10 wx) => (show ∃ (ma : Option Addr) (mc : Nat), v = .slice ma (l.length + 1) mc ∧ RowsAt wx wx.heap.size 4 ma ((l ++ [s]).map Sht.cells) ∧ Below w10.heap.size w10 wx from by
     rw [← cells_snoc] at hown
     obtain ⟨ma, mc, e, h⟩ := Shts.of_own hown (by simp)
     exact ⟨ma, mc, by rw [e]; simp, h, hb⟩))
    clear hb10
    refine wp_region_held_drew (S := fun w' => Below w10.heap.size w10 w') (by kernel_rfl) (Go.below_drewN (Below.refl _ w10) 1) (fun hHeld => ?_)
    refine wpAnyH_take (i := 1) (v := ?_) rfl (by kernel_rfl) (by kernel_rfl) (by kernel_rfl) (fun _ _ _ h => h) (Or.inl ⟨by rfl, ?_⟩) (by assumption) ?_
    rotate_left
    ·intro w' hSw; obtain ⟨s1, s2, s3, s4⟩ := HBX.out w' hSw; first | (go_simp; done) | (go_simp; with_reducible rfl)
    try simp only [Act.put, List.setIfInBounds_toArray]
    refine wpAnyH_take (i := 3) (v := ?_) rfl (by kernel_rfl) (by kernel_rfl) (by kernel_rfl) (fun _ _ _ h => h) (Or.inl ⟨by rfl, ?_⟩) (by assumption) ?_
    rotate_left
    ·intro w' hSw; obtain ⟨s1, s2, s3, s4⟩ := HBX.out w' hSw; first | (go_simp; done) | (go_simp; with_reducible rfl)
    try simp only [Act.put]
    refine wpAnyH_ready (rs := [0, 4]) (by kernel_rfl) (by simp) ?_
    refine AllReadyH.cons rfl (fun K hK => ?_) (AllReadyH.cons rfl (fun K hK => ?_) AllReadyH.nil)
    ·have hb1 : Below w10.heap.size w10 (w10.alloc (.cells #[] 54)).drew := ((Below.refl _ w10).alloc (Nat.le_refl _) _).trans (Go.below_drewN (Below.refl _ _) 1)
     go_simp
     refine hK.out _ _ hb1 (fun _ => ?_)
     clear hK K
     try simp only [Act.put, List.setIfInBounds_toArray, List.set_cons_zero, List.set_cons_succ]
     refine wpAnyH_ready (rs := [2, 4]) (by kernel_rfl) (by simp) ?_
     refine AllReadyH.cons (show _ = some ⟨some 109, _, _, _, _, _⟩ from rfl) (fun K hK => ?_) (AllReadyH.cons rfl (fun K hK => ?_) AllReadyH.nil)
     ·have hbA : Below w10.heap.size w10 (w10.alloc (.cells #[] 54)).drew := hb1
      refine step_append_row (by rfl) _ _ _ (by rfl) w10.heap.size 54 i0 _ 4 56 Tryz.underlying28 hi hz0 hz1 hz2 rfl (by decide) _ 0 [] (by rfl) (own_drew (own_empty w10 54 4)) la l.length lc (l.map Sht.cells).flatten (by rfl) (shts_flat l) (HRL.out _ hbA) shts_one (by unfold maxLen; omega) (by omega) hbA.size ?_
      intro v1 w11 hown1 hgrow1
      rw [Nat.zero_add, List.nil_append] at hown1
      have hb11 : Below w10.heap.size w10 w11 := hbA.grown hgrow1 hbA.size (fun k hk => by cases hk; exact Nat.le_refl _)
      refine hK.out _ _ hb11 (fun _ => ?_)
      clear hK K
      try simp only [Act.put, List.setIfInBounds_toArray, List.set_cons_zero, List.set_cons_succ]
      refine wpAnyH_ready (rs := [4]) (by kernel_rfl) (by simp) ?_
      refine AllReadyH.cons rfl (fun K hK => ?_) AllReadyH.nil
      have hbB : Below w10.heap.size w10 (w11.alloc (.cells #[.string s.lang, .string s.short, .string s.full, .int .i64 s.cost] 54)) := hb11.alloc hb11.size _
      have hownB := World.ownsRow.alloc hown1 (.cells #[.string s.lang, .string s.short, .string s.full, .int .i64 s.cost] 54)
      have hkB : Blk (w11.alloc (.cells #[.string s.lang, .string s.short, .string s.full, .int .i64 s.cost] 54)) w11.heap.size #[.string s.lang, .string s.short, .string s.full, .int .i64 s.cost] 54 := Blk.new _ _ _
      go_simp
      refine hK.out _ _ hbB (fun _ => ?_)
      clear hK K
      try simp only [Act.put, List.setIfInBounds_toArray, List.set_cons_zero, List.set_cons_succ]
      refine wpAnyH_ready (rs := [5]) (by kernel_rfl) (by simp) ?_
      refine AllReadyH.cons (show _ = some ⟨some 112, _, _, _, _, _⟩ from rfl) (fun K hK => ?_) AllReadyH.nil
      refine step_append_row (by rfl) _ _ _ (by rfl) w10.heap.size 54 i0 _ 4 56 Tryz.underlying28 hi hz0 hz1 hz2 rfl (by decide) _ l.length _ (by rfl) hownB (some ⟨w11.heap.size, 0, none⟩) 1 1 s.cells (by rfl) rfl (row_blk (xs := s.cells) hkB) (cells_one s) (by unfold maxLen; omega) (by omega) hbB.size ?_
      intro v2 w12 hown2 hgrow2
      have hb12 : Below w10.heap.size w10 w12 := hbB.grown hgrow2 hbB.size (fun k hk => (hownB.lt k hk).1)
      refine hK.out _ _ hb12 (fun _ => ?_)
      clear hK K
      try simp only [Act.put, List.setIfInBounds_toArray, List.set_cons_zero, List.set_cons_succ]
      have HE := Lib.hid (HD.out _ _ hown2 hb12)
      refine wpAnyH_take (i := 6) (v := ?_) (show _ = some ⟨some 19, _, _, _, _, _⟩ from rfl) (by kernel_rfl) (by kernel_rfl) (by kernel_rfl) (fun _ _ _ h => h) (Or.inl ⟨by rfl, ?_⟩) (by assumption) ?_
      rotate_left
      ·intro w' hSw; obtain ⟨s1, s2, s3, s4⟩ := HBX.out w' hSw; first | (go_simp; done) | (go_simp; with_reducible rfl)
      try simp only [Act.put, List.setIfInBounds_toArray, List.set_cons_zero, List.set_cons_succ]
      refine wpAnyH_done (by kernel_rfl) ?_ _
      go_wp2_with fail
      go_meet
      exact HE.out
     ·have hbA : Below w10.heap.size w10 ((w10.alloc (.cells #[] 54)).drew.alloc (.cells #[.string s.lang, .string s.short, .string s.full, .int .i64 s.cost] 54)) := hb1.alloc hb1.size _
      have hkA : Blk ((w10.alloc (.cells #[] 54)).drew.alloc (.cells #[.string s.lang, .string s.short, .string s.full, .int .i64 s.cost] 54)) (w10.heap.size + 1) #[.string s.lang, .string s.short, .string s.full, .int .i64 s.cost] 54 := by have := Blk.new (w10.alloc (.cells #[] 54)).drew #[.string s.lang, .string s.short, .string s.full, .int .i64 s.cost] 54; simpa using this
      go_simp
      refine hK.out _ _ hbA (fun _ => ?_)
      clear hK K
      try simp only [Act.put, List.setIfInBounds_toArray, List.set_cons_zero, List.set_cons_succ]
      refine wpAnyH_ready (rs := [2]) (by kernel_rfl) (by simp) ?_
      refine AllReadyH.cons (show _ = some ⟨some 109, _, _, _, _, _⟩ from rfl) (fun K hK => ?_) AllReadyH.nil
      refine step_append_row (by rfl) _ _ _ (by rfl) w10.heap.size 54 i0 _ 4 56 Tryz.underlying28 hi hz0 hz1 hz2 rfl (by decide) _ 0 [] (by rfl) (World.ownsRow.alloc (own_drew (own_empty w10 54 4)) _) la l.length lc (l.map Sht.cells).flatten (by rfl) (shts_flat l) (HRL.out _ hbA) shts_one (by unfold maxLen; omega) (by omega) hbA.size ?_
      intro v1 w11 hown1 hgrow1
      rw [Nat.zero_add, List.nil_append] at hown1
      have hbB : Below w10.heap.size w10 w11 := hbA.grown hgrow1 hbA.size (fun k hk => by cases hk; simp)
      have hkB := hkA.grown hgrow1 (fun e => by have := Option.some.inj e; simp at this)
      have hownB := hown1
      refine hK.out _ _ hbB (fun _ => ?_)
      clear hK K
      try simp only [Act.put, List.setIfInBounds_toArray, List.set_cons_zero, List.set_cons_succ]
      refine wpAnyH_ready (rs := [5]) (by kernel_rfl) (by simp) ?_
      refine AllReadyH.cons (show _ = some ⟨some 112, _, _, _, _, _⟩ from rfl) (fun K hK => ?_) AllReadyH.nil
      refine step_append_row (by rfl) _ _ _ (by rfl) w10.heap.size 54 i0 _ 4 56 Tryz.underlying28 hi hz0 hz1 hz2 rfl (by decide) _ l.length _ (by rfl) hownB (some ⟨w10.heap.size + 1, 0, none⟩) 1 1 s.cells (by rfl) rfl (row_blk (xs := s.cells) hkB) (cells_one s) (by unfold maxLen; omega) (by omega) hbB.size ?_
      intro v2 w12 hown2 hgrow2
      have hb12 : Below w10.heap.size w10 w12 := hbB.grown hgrow2 hbB.size (fun k hk => (hownB.lt k hk).1)
      refine hK.out _ _ hb12 (fun _ => ?_)
      clear hK K
      try simp only [Act.put, List.setIfInBounds_toArray, List.set_cons_zero, List.set_cons_succ]
      have HE := Lib.hid (HD.out _ _ hown2 hb12)
      refine wpAnyH_take (i := 6) (v := ?_) (show _ = some ⟨some 19, _, _, _, _, _⟩ from rfl) (by kernel_rfl) (by kernel_rfl) (by kernel_rfl) (fun _ _ _ h => h) (Or.inl ⟨by rfl, ?_⟩) (by assumption) ?_
      rotate_left
      ·intro w' hSw; obtain ⟨s1, s2, s3, s4⟩ := HBX.out w' hSw; first | (go_simp; done) | (go_simp; with_reducible rfl)
      try simp only [Act.put, List.setIfInBounds_toArray, List.set_cons_zero, List.set_cons_succ]
      refine wpAnyH_done (by kernel_rfl) ?_ _
      go_wp2_with fail
      go_meet
      exact HE.out
    ·have hb1 : Below w10.heap.size w10 (w10.alloc (.cells #[.string s.lang, .string s.short, .string s.full, .int .i64 s.cost] 54)).drew := ((Below.refl _ w10).alloc (Nat.le_refl _) _).trans (Go.below_drewN (Below.refl _ _) 1)
     go_simp
     refine hK.out _ _ hb1 (fun _ => ?_)
     clear hK K
     try simp only [Act.put, List.setIfInBounds_toArray, List.set_cons_zero, List.set_cons_succ]
     refine wpAnyH_ready (rs := [0]) (by kernel_rfl) (by simp) ?_
     refine AllReadyH.cons rfl (fun K hK => ?_) AllReadyH.nil
     have hbA : Below w10.heap.size w10 ((w10.alloc (.cells #[.string s.lang, .string s.short, .string s.full, .int .i64 s.cost] 54)).drew.alloc (.cells #[] 54)) := hb1.alloc hb1.size _
     have hownA : ((w10.alloc (.cells #[.string s.lang, .string s.short, .string s.full, .int .i64 s.cost] 54)).drew.alloc (.cells #[] 54)).ownsRow w10.heap.size 54 4 (.slice (some ⟨w10.heap.size + 1, 0, none⟩) 0 0) 0 [] := by
      have := own_base (own_empty (w10.alloc (.cells #[.string s.lang, .string s.short, .string s.full, .int .i64 s.cost] 54)).drew 54 4) hb1.size
      simpa using this
     have hkA : Blk ((w10.alloc (.cells #[.string s.lang, .string s.short, .string s.full, .int .i64 s.cost] 54)).drew.alloc (.cells #[] 54)) w10.heap.size #[.string s.lang, .string s.short, .string s.full, .int .i64 s.cost] 54 := (Blk.new w10 #[.string s.lang, .string s.short, .string s.full, .int .i64 s.cost] 54).alloc _
     go_simp
     refine hK.out _ _ hbA (fun _ => ?_)
     clear hK K
     try simp only [Act.put, List.setIfInBounds_toArray, List.set_cons_zero, List.set_cons_succ]
     refine wpAnyH_ready (rs := [2]) (by kernel_rfl) (by simp) ?_
     refine AllReadyH.cons (show _ = some ⟨some 109, _, _, _, _, _⟩ from rfl) (fun K hK => ?_) AllReadyH.nil
     refine step_append_row (by rfl) _ _ _ (by rfl) w10.heap.size 54 i0 _ 4 56 Tryz.underlying28 hi hz0 hz1 hz2 rfl (by decide) _ 0 [] (by rfl) hownA la l.length lc (l.map Sht.cells).flatten (by rfl) (shts_flat l) (HRL.out _ hbA) shts_one (by unfold maxLen; omega) (by omega) hbA.size ?_
     intro v1 w11 hown1 hgrow1
     rw [Nat.zero_add, List.nil_append] at hown1
     have hbB : Below w10.heap.size w10 w11 := hbA.grown hgrow1 hbA.size (fun k hk => by cases hk; simp)
     have hkB := hkA.grown hgrow1 (fun e => by have := Option.some.inj e; simp at this)
     have hownB := hown1
     refine hK.out _ _ hbB (fun _ => ?_)
     clear hK K
     try simp only [Act.put, List.setIfInBounds_toArray, List.set_cons_zero, List.set_cons_succ]
     refine wpAnyH_ready (rs := [5]) (by kernel_rfl) (by simp) ?_
     refine AllReadyH.cons (show _ = some ⟨some 112, _, _, _, _, _⟩ from rfl) (fun K hK => ?_) AllReadyH.nil
     refine step_append_row (by rfl) _ _ _ (by rfl) w10.heap.size 54 i0 _ 4 56 Tryz.underlying28 hi hz0 hz1 hz2 rfl (by decide) _ l.length _ (by rfl) hownB (some ⟨w10.heap.size, 0, none⟩) 1 1 s.cells (by rfl) rfl (row_blk (xs := s.cells) hkB) (cells_one s) (by unfold maxLen; omega) (by omega) hbB.size ?_
     intro v2 w12 hown2 hgrow2
     have hb12 : Below w10.heap.size w10 w12 := hbB.grown hgrow2 hbB.size (fun k hk => (hownB.lt k hk).1)
     refine hK.out _ _ hb12 (fun _ => ?_)
     clear hK K
     try simp only [Act.put, List.setIfInBounds_toArray, List.set_cons_zero, List.set_cons_succ]
     have HE := Lib.hid (HD.out _ _ hown2 hb12)
     refine wpAnyH_take (i := 6) (v := ?_) (show _ = some ⟨some 19, _, _, _, _, _⟩ from rfl) (by kernel_rfl) (by kernel_rfl) (by kernel_rfl) (fun _ _ _ h => h) (Or.inl ⟨by rfl, ?_⟩) (by assumption) ?_
     rotate_left
     ·intro w' hSw; obtain ⟨s1, s2, s3, s4⟩ := HBX.out w' hSw; first | (go_simp; done) | (go_simp; with_reducible rfl)
     try simp only [Act.put, List.setIfInBounds_toArray, List.set_cons_zero, List.set_cons_succ]
     refine wpAnyH_done (by kernel_rfl) ?_ _
     go_wp2_with fail
     go_meet
     exact HE.out
   obtain ⟨ma, mc, rfl, hmore, hbc⟩ := hcut
   have HbD := Lib.hid (Hb10.out.trans (hbc.mono Hb10.out.size))
   have HDD := Lib.hid (And.intro hmore ((H10.out.below hbc (Nat.le_refl _)).more hbc.size))
   clear hmore hbc H10 Hb10
   obtain ⟨wD, rfl⟩ : ∃ wD : World, wD = wc := ⟨_, rfl⟩
   by_cases he1 : e1 = 0
   case neg =>
    have d1 : (e1 != 0) = true := by simpa using he1
    have HE := Lib.hid (HR.out wD HbD.out).2.2.2
    clear he1
    go_wp2_with fail
    go_ret
    exact ⟨rfl, HE.out⟩
   subst he1
   have hlen : (l ++ [s]).length = l.length + 1 := by simp
   have hfit' : ∀ r ∈ l ++ [s], r.fits := fun r hr => (List.mem_append.1 hr).elim (hfit r) (fun h => by obtain rfl := List.mem_singleton.1 h; exact hs)
   have hp := Proper_any (l ++ [s]) ma mc (by rw [hlen]; unfold maxLen; omega) hfit' wD HDD.out.1
   rw [hlen] at hp
   by_cases hP : Proper (l ++ [s])
   case neg =>
    rw [decide_eq_false hP] at hp
    have HP := Lib.hid hp
    clear hp hP hlen hfit'
    go_wp2_with fail
    refine HP.out.mono ?_
    rintro e wE ⟨rfl, hbE⟩
    have HE := Lib.hid (HR.out wE (HbD.out.trans (hbE.mono HbD.out.size))).2.2.2
    clear hbE HP
    go_wp2_with fail
    go_ret
    exact ⟨rfl, HE.out⟩
   rw [decide_eq_true hP] at hp
   have HP := Lib.hid (And.intro hp hP)
   have Hfit' := Lib.hid (And.intro hlen hfit')
   clear hp hP hlen hfit'
   go_wp2_with fail
   refine HP.out.1.mono ?_
   rintro e wE ⟨rfl, hbE⟩
   have HbE := Lib.hid (HbD.out.trans (hbE.mono HbD.out.size))
   have HEE := Lib.hid (And.intro ((HDD.out.1.below hbE (Nat.le_refl _)).more hbE.size) ((HDD.out.2.below hbE (Nat.le_refl _)).more hbE.size))
   have hS4 := Spell_any (l ++ [s]) W ma wa mc wcp (by rw [Hfit'.out.1]; unfold maxLen; omega) Hfit'.out.2 hW wE HEE.out.1 (HR.out wE HbE.out).2.1
   rw [Hfit'.out.1] at hS4
   have HS4 := Lib.hid hS4
   clear hbE hS4 HDD HbD
   go_wp2_with fail
   refine HS4.out.mono ?_
   rintro e wF hp
   obtain ⟨a4, c4, L4, e4, rfl, hs4, hL4, hb4⟩ := hp.read
   have HbF := Lib.hid (HbE.out.trans (hb4.mono HbE.out.size))
   have p1 : Spelt l W (L1.map Spl.key) := H4.out.1.spelt
   have hlim := more_limit p1.plain HP.out.2 hs4
   have n4 : L4.length ≤ 64 := by have := hs4.err.1; rwa [List.length_map] at this
   have HFF := Lib.hid (And.intro ((HEE.out.2.below hb4 (Nat.le_refl _)).more hb4.size) (And.intro hL4 (And.intro p1 hs4)))
   clear hp hs4 hL4 hb4 HS4 HEE HbE p1
   rcases hlim with rfl | rfl
   case inr =>
    have HE := Lib.hid (HR.out wF HbF.out).2.2.2
    go_wp2_with fail
    go_ret
    exact ⟨rfl, HE.out⟩
   have HP4 := Lib.hid (SpellOf.spelt HFF.out.2.2.2)
   go_wp2_with fail
   go_loopw [22] (fun i wr => ∃ j : Nat, j ≤ L1.length ∧ i = .int .i64 j ∧ Below wF.heap.size wF wr) (fun i _ => L1.length - (intOf i).toNat)
   case atStart => exact ⟨0, Nat.zero_le _, rfl, Below.refl _ _⟩
   case round =>
    obtain ⟨j, hj, rfl, hbj⟩ := hrel
    have Hbj := Lib.hid hbj
    clear hbj
    by_cases hjl : j < L1.length
    case neg =>
     have HE := Lib.hid (HR.out wr (HbF.out.trans (Hbj.out.mono HbF.out.size))).2.2.2
     go_wp2_with fail
     go_ret
     exact ⟨rfl, HE.out⟩
    obtain ⟨g1, o1, rfl, hg1, hc1⟩ := HFF.out.1.get (by omega)
    obtain ⟨x, hx⟩ : ∃ x, L1[j] = x := ⟨_, rfl⟩
    have c1 := hc1 j hjl
    rw [hx] at c1
    have hmx : x ∈ L1 := by rw [← hx]; exact List.getElem_mem hjl
    have kx : x.key ∈ L1.map Spl.key := List.mem_map_of_mem hmx
    obtain ⟨d, hd, hd0, hd1⟩ := HFF.out.2.2.1.more HP4.out kx
    have hfind := HP4.out.find hd
    simp only [Spl.key] at hd1 hfind
    have hok := HFF.out.1.ok x hmx
    have HRD := Lib.hid (fun (w' : World) (hb : Below wF.heap.size wF w') => (show w'.cell? ⟨g1, o1 + j * 2, none⟩ = some (.slice x.at_ x.ws.length x.cap) ∧ w'.cell? ⟨g1, o1 + j * 2 + 1, none⟩ = some (.int .i64 x.cost) from
     ⟨(hb.cell (p := ⟨g1, _, none⟩) hg1).trans c1.1, (hb.cell (p := ⟨g1, _, none⟩) hg1).trans c1.2⟩))
    have hfd := Find_any L4 x.ws a4 x.at_ c4 x.cap (by unfold maxLen; omega) wr ((HFF.out.2.1.below Hbj.out (Nat.le_refl _)).more Hbj.out.size) ((hok.2.below Hbj.out (Nat.le_refl _)).more Hbj.out.size)
    rw [hfind] at hfd
    have HFd := Lib.hid hfd
    obtain ⟨k0, k1⟩ := HRD.out wr Hbj.out
    clear hx c1 hc1 hmx kx hd hfind hok hfd
    go_wp2_with fail
    refine HFd.out.mono ?_
    rintro e wG ⟨rfl, q, hq⟩
    have HbG := Lib.hid (show Below wF.heap.size wF wG from by rw [hq]; exact Go.below_drewN Hbj.out q)
    clear k0 k1 hq HFd
    obtain ⟨k0, k1⟩ := HRD.out wG HbG.out
    have d1 : decide (d < 0) = false := decide_eq_false (by omega)
    have d2 : decide (x.cost < d) = false := decide_eq_false (by omega)
    go_wp2_with fail
    exact ⟨⟨j + 1, by omega, by go_num, HbG.out⟩, by simp [intOf]; omega⟩
end Go.Proofs.YthachfkcgdfdfaaGreatDoor
