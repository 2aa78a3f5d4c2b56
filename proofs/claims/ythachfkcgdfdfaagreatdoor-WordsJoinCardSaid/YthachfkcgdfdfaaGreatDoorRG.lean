/- Walk: the law WordsJoin. -/
import Derived.Test.YthachfkcgdfdfaaGreatDoorS21
namespace Go.Proofs.YthachfkcgdfdfaaGreatDoor
open Go.RowKit Go.Shelf Classical

set_option maxRecDepth 100000 in
set_option maxHeartbeats 20000000 in
theorem join_law (l : List Sht) (V W : List ByteArray) (la va wa : Option Addr) (lc vc wc : Nat) (w : World) (hl : l.length ≤ maxLen) (hfit : ∀ s ∈ l, s.fits) (hV : V.length ≤ maxLen) (hVs : ∀ s ∈ V, s.size ≤ maxLen) (hW : W.length ≤ maxLen) (hWs : ∀ s ∈ W, s.size ≤ maxLen)
  (hla : RowsAt w w.heap.size 4 la (l.map Sht.cells)) (hva : RowAt w w.heap.size va (strs V)) (hwa : RowAt w w.heap.size wa (strs W)) :
  Calls Tryz.prog 8 #[.slice la l.length lc, .slice va V.length vc, .slice wa W.length wc] w fun e w' => e = .returned (.bool true) ∧ Below w.heap.size w w' := by
 obtain ⟨i0, hi, hz0, hz1, hz2⟩ := info_parts info_str17
 have HR := Lib.hid (fun (wr : World) (hb : Below w.heap.size w wr) => (show RowsAt wr wr.heap.size 4 la (l.map Sht.cells) ∧ RowAt wr wr.heap.size va (strs V) ∧ RowAt wr wr.heap.size wa (strs W) from
  ⟨(hla.below hb (Nat.le_refl _)).more hb.size, (hva.below hb (Nat.le_refl _)).more hb.size, (hwa.below hb (Nat.le_refl _)).more hb.size⟩))
 clear hla hva hwa
 go_enter Tryz.func8, Tryz.ntmps8
 go_upto_region 2 with (go_at_call 9; refine (head17_any w).mono ?_; rintro e w1 ⟨rfl, hb1⟩)
 obtain ⟨h1, h2, h3⟩ := HR.out w1 hb1
 have HF1 := Lib.hid (Few17_any l V la va lc vc hl hV hfit hVs w1 h1 h2)
 have HF2 := Lib.hid (Few17_any l W la wa lc wc hl hW hfit hWs w1 h1 h3)
 have Hb1 := Lib.hid hb1
 have hlV := hV
 have hlW := hW
 unfold maxLen at hlV hlW
 clear h1 h2 h3 hb1 hV hW hVs hWs
 go_wp2_with fail
 refine HF1.out.mono ?_
 rintro e w2 ⟨⟨q, rfl, hq⟩, rfl⟩
 cases q with
 | false =>
  go_wp2_with fail
  go_ret
  exact ⟨rfl, Hb1.out⟩
 | true =>
 have Hq1 := Lib.hid (hq rfl)
 clear hq
 go_wp2_with fail
 refine HF2.out.mono ?_
 rintro e w3 ⟨⟨q, rfl, hq⟩, rfl⟩
 cases q with
 | false =>
  go_wp2_with fail
  go_ret
  exact ⟨rfl, Hb1.out⟩
 | true =>
 have Hq2 := Lib.hid (hq rfl)
 clear hq
 have hwr : IntKind.i64.wrap ((V.length : Int) + (W.length : Int)) = (V.length : Int) + (W.length : Int) := IntWalk.i64_in _ (by have := Hq1.out; have := Hq2.out; omega)
 by_cases h12 : 12 < V.length + W.length
 ·have d1 : (12 : Int) < (V.length : Int) + (W.length : Int) := by omega
  go_wp2_with fail
  go_ret
  exact ⟨rfl, Hb1.out⟩
 have d1 : (V.length : Int) + (W.length : Int) ≤ 12 := by omega
 obtain ⟨r1, r2, -⟩ := HR.out _ Hb1.out
 have HS1 := Lib.hid (Spell_any l V la va lc vc hl hfit (by unfold maxLen; omega) _ r1 r2)
 clear r1 r2
 go_wp2_with fail
 refine HS1.out.mono ?_
 rintro e w4 hp
 obtain ⟨a1, c1, L1, e1, rfl, hs1, hL1, hb4⟩ := hp.read
 have Hb4 := Lib.hid (Hb1.out.trans (hb4.mono Hb1.out.size))
 have H4 := Lib.hid (And.intro hs1 hL1)
 clear hp hs1 hL1 hb4 HS1 hwr
 obtain ⟨r1, -, r3⟩ := HR.out _ Hb4.out
 have HS2 := Lib.hid (Spell_any l W la wa lc wc hl hfit (by unfold maxLen; omega) _ r1 r3)
 clear r1 r3
 go_wp2_with fail
 refine HS2.out.mono ?_
 rintro e w5 hp
 obtain ⟨a2, c2, L2, e2, rfl, hs2, hL2, hb5⟩ := hp.read
 have Hb5 := Lib.hid (Hb4.out.trans (hb5.mono Hb4.out.size))
 have H5 := Lib.hid (And.intro H4.out.1 (And.intro ((H4.out.2.below hb5 (Nat.le_refl _)).more hb5.size) (And.intro hs2 hL2)))
 clear hp hs2 hL2 hb5 HS2 H4
 by_cases he1 : e1 = 0
 case neg =>
  have d2 : (e1 != 0) = true := by simpa using he1
  clear he1
  go_wp2_with fail
  go_ret
  exact ⟨rfl, Hb5.out⟩
 subst he1
 by_cases he2 : e2 = 0
 case neg =>
  have d2 : (e2 != 0) = true := by simpa using he2
  clear he2
  go_wp2_with fail
  go_ret
  exact ⟨rfl, Hb5.out⟩
 subst he2
 have p1 : Spelt l V (L1.map Spl.key) := H5.out.1.spelt
 have p2 : Spelt l W (L2.map Spl.key) := H5.out.2.2.1.spelt
 have hV1 : 1 ≤ V.length := by
  rcases H5.out.1 with ⟨_, _, e⟩ | ⟨_, _, _, e⟩ | ⟨⟨_, h⟩, _⟩
  ·cases e
  ·cases e
  ·exact h.1
 have hW1 : 1 ≤ W.length := by
  rcases H5.out.2.2.1 with ⟨_, _, e⟩ | ⟨_, _, _, e⟩ | ⟨⟨_, h⟩, _⟩
  ·cases e
  ·cases e
  ·exact h.1
 have n1 : L1.length ≤ 64 := by have := H5.out.1.err.1; rwa [List.length_map] at this
 have n2 : L2.length ≤ 64 := by have := H5.out.2.2.1.err.1; rwa [List.length_map] at this
 have HP := Lib.hid (And.intro p1 p2)
 clear p1 p2
 obtain ⟨-, r2, r3⟩ := HR.out _ Hb5.out
 obtain ⟨gv, ov, rfl, hgv, hcv⟩ := r2 (by simp [strs]; omega)
 obtain ⟨gw, ow, rfl, hgw, hcw⟩ := r3 (by simp [strs]; omega)
 have hb7 : Below w5.heap.size w5 (w5.alloc (.cells #[] 9)) := (Below.refl _ w5).alloc (Nat.le_refl _) _
 have HC7 := Lib.hid (fun (j : Nat) (u : Value) (hu : (strs V)[j]? = some u) => (show (w5.alloc (.cells #[] 9)).cell? (Addr.add ⟨gv, ov, none⟩ j) = some u from by rw [add_at]; exact (hb7.cell (p := ⟨gv, ov + j, none⟩) hgv).trans (hcv j u hu)))
 have HC := Lib.hid hcw
 have Hb7 := Lib.hid hb7
 have hVl : (strs V).length = V.length * 1 := by simp [strs]
 have hWl : (strs W).length = W.length * 1 := by simp [strs]
 have hVo : ∀ u ∈ strs V, u.oneCell' = true := fun u hu => by obtain ⟨x, _, rfl⟩ := List.mem_map.1 hu; rfl
 have hWo : ∀ u ∈ strs W, u.oneCell' = true := fun u hu => by obtain ⟨x, _, rfl⟩ := List.mem_map.1 hu; rfl
 have HO := Lib.hid (And.intro hVl (And.intro hWl (And.intro hVo hWo)))
 clear r2 r3 hcv hcw hb7 hVl hWl hVo hWo
 go_wp2_with (at_builtin; refine wpList_append_own _ rfl _ _ 29 rfl w5.heap.size 9 i0 _ 1 16 Tryz.underlying29 hi hz0 hz1 hz2 rfl (by decide) _ _ _ rfl (own_empty w5 9 1) ⟨gv, ov, none⟩ V.length vc (strs V) rfl HO.out.1 HC7.out HO.out.2.2.1 (by unfold maxLen; omega) (by omega) (by simp) ?_)
 intro v8 w8 hown8 hgrow8 _
 try rw [Nat.zero_add] at hown8
 try rw [List.nil_append] at hown8
 obtain ⟨a8, c8, rfl, -, -⟩ := RowAt.of_own hown8
 have hb8 : Below w5.heap.size w5 w8 := Hb7.out.grown hgrow8 (by simp) (fun k hk => by cases hk; exact Nat.le_refl _)
 have HC8 := Lib.hid (fun (j : Nat) (u : Value) (hu : (strs W)[j]? = some u) => (show w8.cell? (Addr.add ⟨gw, ow, none⟩ j) = some u from by rw [add_at]; exact (hb8.cell (p := ⟨gw, ow + j, none⟩) hgw).trans (HC.out j u hu)))
 have H8 := Lib.hid (And.intro hown8 hb8)
 have hz8 := hb8.size
 clear hown8 hgrow8 hb8 HC7 HC Hb7
 go_wp2_with (at_builtin; refine wpList_append_own _ rfl _ _ 29 rfl w5.heap.size 9 i0 _ 1 16 Tryz.underlying29 hi hz0 hz1 hz2 rfl (by decide) _ _ _ rfl H8.out.1 ⟨gw, ow, none⟩ W.length wc (strs W) rfl HO.out.2.1 HC8.out HO.out.2.2.2 (by unfold maxLen; omega) (by omega) hz8 ?_)
 intro v9 w9 hown9 hgrow9 _
 rw [show strs V ++ strs W = strs (V ++ W) by simp [strs], show V.length + W.length = (V ++ W).length by simp] at hown9
 obtain ⟨X, hX⟩ : ∃ X, X = V ++ W := ⟨_, rfl⟩
 rw [← hX] at hown9
 obtain ⟨a9, c9, rfl, -, hr9⟩ := RowAt.of_own hown9
 have hb9 : Below w5.heap.size w5 w9 := H8.out.2.grown hgrow9 hz8 (fun k hk => (H8.out.1.lt k hk).1)
 have Hb9 := Lib.hid (Hb5.out.trans (hb9.mono Hb5.out.size))
 have hvw : X.length ≤ 12 := by rw [hX, List.length_append]; omega
 have HXv := Lib.hid hX
 have HS3 := Lib.hid (Spell_any l X la a9 lc c9 hl hfit (by unfold maxLen; omega) w9 (HR.out w9 Hb9.out).1 hr9)
 have H9 := Lib.hid (And.intro ((H5.out.2.1.below hb9 (Nat.le_refl _)).more hb9.size) ((H5.out.2.2.2.below hb9 (Nat.le_refl _)).more hb9.size))
 clear hown9 hgrow9 hr9 hb9 H8 HC8 hz8 hX
 go_wp2_with fail
 refine HS3.out.mono ?_
 rintro e wA hp
 obtain ⟨a3, c3, L3, e3, rfl, hs3, hL3, hbA⟩ := hp.read
 rw [HXv.out] at hs3
 have HbA := Lib.hid (Hb9.out.trans (hbA.mono Hb9.out.size))
 have HA := Lib.hid (And.intro ((H9.out.1.below hbA (Nat.le_refl _)).more hbA.size) (And.intro ((H9.out.2.below hbA (Nat.le_refl _)).more hbA.size) (And.intro hs3 hL3)))
 have hjl := join_limit HP.out.1 HP.out.2 (by omega) hs3
 rw [List.length_map, List.length_map] at hjl
 clear hp hs3 hL3 hbA HS3 H9 hvw HXv
 obtain ⟨n, hn⟩ : ∃ n, L1.length * L2.length = n := ⟨_, rfl⟩
 have hn2 : n ≤ 64 * 64 := by rw [← hn]; exact Nat.mul_le_mul n1 n2
 have hmul : IntKind.i64.wrap ((L1.length : Int) * (L2.length : Int)) = (n : Int) := by
  have e : (L1.length : Int) * (L2.length : Int) = (n : Int) := by rw [← hn]; simp
  rw [e]
  exact IntWalk.i64_in _ (by omega)
 rw [hn] at hjl
 have Hn := Lib.hid hn
 clear hn
 rcases hjl with rfl | ⟨rfl, h64⟩
 case inr =>
  have d2 : (64 : Int) < (n : Int) := by omega
  go_wp2_with fail
  go_ret
  exact ⟨rfl, HbA.out⟩
 have p3 := SpellOf.spelt HA.out.2.2.1
 obtain ⟨hl3, hj3⟩ := HP.out.1.join HP.out.2 p3
 rw [List.length_map, List.length_map, List.length_map, Hn.out] at hl3
 have HJ := Lib.hid (And.intro hl3 (And.intro hj3 p3))
 have n3 : L3.length ≤ 64 := by have := HA.out.2.2.1.err.1; rwa [List.length_map] at this
 clear hl3 hj3 p3
 go_wp2_with fail
 go_loopw [14] (fun i wr => ∃ j : Nat, j ≤ L1.length ∧ i = .int .i64 j ∧ Below wA.heap.size wA wr) (fun i _ => L1.length - (intOf i).toNat)
 case atStart => exact ⟨0, Nat.zero_le _, rfl, Below.refl _ _⟩
 case round =>
  obtain ⟨j, hj, rfl, hbj⟩ := hrel
  have Hbj := Lib.hid hbj
  clear hbj
  by_cases hj1 : j < L1.length
  case neg =>
   obtain rfl : j = L1.length := by omega
   have hfin : ((L3.length : Int) == (n : Int)) = true := by rw [HJ.out.1]; simp
   go_wp2_with fail
   go_ret
   exact ⟨rfl, HbA.out.trans (Hbj.out.mono HbA.out.size)⟩
  obtain ⟨wo, rfl⟩ : ∃ wo : World, wo = wr := ⟨_, rfl⟩
  go_wp2_with fail
  go_loopw [15] (fun k wr => ∃ m : Nat, m ≤ L2.length ∧ k = .int .i64 m ∧ Below wA.heap.size wA wr) (fun k _ => L2.length - (intOf k).toNat)
  case atStart => exact ⟨0, Nat.zero_le _, rfl, Hbj.out⟩
  case round =>
   obtain ⟨m, hm, rfl, hbm⟩ := hrel
   have Hbm := Lib.hid hbm
   clear hbm
   by_cases hm1 : m < L2.length
   case neg =>
    obtain rfl : m = L2.length := by omega
    go_wp2_with fail
    exact ⟨⟨j + 1, by omega, by go_num, Hbm.out⟩, by simp [intOf]; omega⟩
   ·obtain ⟨g1, o1, rfl, hg1, hc1⟩ := HA.out.1.get (by omega)
    obtain ⟨g2, o2, rfl, hg2, hc2⟩ := HA.out.2.1.get (by omega)
    obtain ⟨x, hx⟩ : ∃ x, L1[j] = x := ⟨_, rfl⟩
    obtain ⟨y, hy⟩ : ∃ y, L2[m] = y := ⟨_, rfl⟩
    have c1 := hc1 j hj1
    have c2 := hc2 m hm1
    rw [hx] at c1
    rw [hy] at c2
    have hmx : x ∈ L1 := by rw [← hx]; exact List.getElem_mem hj1
    have hmy : y ∈ L2 := by rw [← hy]; exact List.getElem_mem hm1
    have kx : x.key ∈ L1.map Spl.key := List.mem_map_of_mem hmx
    have ky : y.key ∈ L2.map Spl.key := List.mem_map_of_mem hmy
    have hfind : findC (L3.map Spl.key) (x.ws ++ y.ws) = x.cost + y.cost := HJ.out.2.2.find (HJ.out.2.1 _ kx _ ky)
    have hlx : x.ws.length = V.length := (HP.out.1.length kx).1
    have hly : y.ws.length = W.length := (HP.out.2.length ky).1
    have hcx := (HP.out.1.length kx).2
    have hcy := (HP.out.2.length ky).2
    have hmx2 := HP.out.1.most kx
    have hmy2 := HP.out.2.most ky
    simp only [Spl.key] at hcx hcy hmx2 hmy2
    have hsum : IntKind.i64.wrap (x.cost + y.cost) = x.cost + y.cost := IntWalk.i64_in _ (by omega)
    obtain ⟨xb, xo, hxa, hxb, hxc⟩ := (HA.out.1.ok x hmx).2.strs (by omega)
    obtain ⟨yb, yo, hya, hyb, hyc⟩ := (HA.out.2.1.ok y hmy).2.strs (by omega)
    rw [hxa] at c1
    rw [hya] at c2
    have HRD := Lib.hid (fun (w' : World) (hb : Below wA.heap.size wA w') => (show w'.cell? ⟨g1, o1 + j * 2, none⟩ = some (.slice (some ⟨xb, xo, none⟩) x.ws.length x.cap) ∧ w'.cell? ⟨g1, o1 + j * 2 + 1, none⟩ = some (.int .i64 x.cost) ∧ w'.cell? ⟨g2, o2 + m * 2, none⟩ = some (.slice (some ⟨yb, yo, none⟩) y.ws.length y.cap) ∧ w'.cell? ⟨g2, o2 + m * 2 + 1, none⟩ = some (.int .i64 y.cost) from
     ⟨(hb.cell (p := ⟨g1, _, none⟩) hg1).trans c1.1, (hb.cell (p := ⟨g1, _, none⟩) hg1).trans c1.2, (hb.cell (p := ⟨g2, _, none⟩) hg2).trans c2.1, (hb.cell (p := ⟨g2, _, none⟩) hg2).trans c2.2⟩))
    have HRX := Lib.hid (fun (w' : World) (hb : Below wA.heap.size wA w') (i : Nat) (u : Value) (hu : (strs x.ws)[i]? = some u) => (show w'.cell? (Addr.add ⟨xb, xo, none⟩ i) = some u from by
     rw [add_at]
     have hi : i < x.ws.length := by have := (List.getElem?_eq_some_iff.1 hu).1; simpa [strs] using this
     refine (hb.cell (p := ⟨xb, xo + i, none⟩) hxb).trans ((hxc i hi).trans ?_)
     rw [← hu]; simp [strs, hi]))
    have HRY := Lib.hid (fun (w' : World) (hb : Below wA.heap.size wA w') (i : Nat) (u : Value) (hu : (strs y.ws)[i]? = some u) => (show w'.cell? (Addr.add ⟨yb, yo, none⟩ i) = some u from by
     rw [add_at]
     have hi : i < y.ws.length := by have := (List.getElem?_eq_some_iff.1 hu).1; simpa [strs] using this
     refine (hb.cell (p := ⟨yb, yo + i, none⟩) hyb).trans ((hyc i hi).trans ?_)
     rw [← hu]; simp [strs, hi]))
    have HF := Lib.hid hfind
    have Hx1 : 1 ≤ x.ws.length ∧ x.ws.length ≤ 12 := by omega
    have Hy1 : 1 ≤ y.ws.length ∧ y.ws.length ≤ 12 := by omega
    clear hx hy c1 c2 hc1 hc2 hmx hmy kx ky hfind hlx hly hcx hcy hmx2 hmy2 hxa hya hxc hyc
    go_upto_region 17 with (fail)
    have hbd : Below wA.heap.size wA wr.drew := Hbm.out.trans (Go.below_drewN (Below.refl _ wr) 1)
    have hsz := Hbm.out.size
    refine wp_region_held_drew (S := fun w' => Below wA.heap.size wA w') (by kernel_rfl) hbd (fun hHeld => ?_)
    refine wpAnyH_take (i := 0) (v := ?_) (show _ = some ⟨some 92, _, _, _, _, _⟩ from rfl) (by kernel_rfl) (by kernel_rfl) (by kernel_rfl) (fun _ _ _ h => h) (Or.inl ⟨by kernel_rfl, ?_⟩) (by assumption) ?_
    rotate_left
    ·intro w' hSw; obtain ⟨s1, s2, s3, s4⟩ := HRD.out w' hSw; first | (go_simp; done) | (go_simp; with_reducible rfl)
    try simp only [Act.put, List.setIfInBounds_toArray, List.set_cons_zero, List.set_cons_succ]
    refine wpAnyH_take (i := 2) (v := ?_) (show _ = some ⟨some 94, _, _, _, _, _⟩ from rfl) (by kernel_rfl) (by kernel_rfl) (by kernel_rfl) (fun _ _ _ h => h) (Or.inl ⟨by kernel_rfl, ?_⟩) (by assumption) ?_
    rotate_left
    ·intro w' hSw; obtain ⟨s1, s2, s3, s4⟩ := HRD.out w' hSw; first | (go_simp; done) | (go_simp; with_reducible rfl)
    try simp only [Act.put, List.setIfInBounds_toArray, List.set_cons_zero, List.set_cons_succ]
    refine wpAnyH_take (i := 3) (v := ?_) (show _ = some ⟨some 95, _, _, _, _, _⟩ from rfl) (by kernel_rfl) (by kernel_rfl) (by kernel_rfl) (fun _ _ _ h => h) (Or.inl ⟨by kernel_rfl, ?_⟩) (by assumption) ?_
    rotate_left
    ·intro w' hSw; obtain ⟨s1, s2, s3, s4⟩ := HRD.out w' hSw; first | (go_simp; done) | (go_simp; with_reducible rfl)
    try simp only [Act.put, List.setIfInBounds_toArray, List.set_cons_zero, List.set_cons_succ]
    refine wpAnyH_take (i := 4) (v := ?_) (show _ = some ⟨some 96, _, _, _, _, _⟩ from rfl) (by kernel_rfl) (by kernel_rfl) (by kernel_rfl) (fun _ _ _ h => h) (Or.inl ⟨by kernel_rfl, ?_⟩) (by assumption) ?_
    rotate_left
    ·intro w' hSw; obtain ⟨s1, s2, s3, s4⟩ := HRD.out w' hSw; first | (go_simp; done) | (go_simp; with_reducible rfl)
    try simp only [Act.put, List.setIfInBounds_toArray, List.set_cons_zero, List.set_cons_succ]
    refine wpAnyH_take (i := 5) (v := ?_) (show _ = some ⟨some 97, _, _, _, _, _⟩ from rfl) (by kernel_rfl) (by kernel_rfl) (by kernel_rfl) (fun _ _ _ h => h) (Or.inl ⟨by kernel_rfl, ?_⟩) (by assumption) ?_
    rotate_left
    ·intro w' hSw; obtain ⟨s1, s2, s3, s4⟩ := HRD.out w' hSw; first | (go_simp; done) | (go_simp; with_reducible rfl)
    try simp only [Act.put, List.setIfInBounds_toArray, List.set_cons_zero, List.set_cons_succ]
    refine wpAnyH_take (i := 6) (v := ?_) (show _ = some ⟨some 98, _, _, _, _, _⟩ from rfl) (by kernel_rfl) (by kernel_rfl) (by kernel_rfl) (fun _ _ _ h => h) (Or.inl ⟨by kernel_rfl, ?_⟩) (by assumption) ?_
    rotate_left
    ·intro w' hSw; obtain ⟨s1, s2, s3, s4⟩ := HRD.out w' hSw; first | (go_simp; done) | (go_simp; with_reducible rfl)
    try simp only [Act.put, List.setIfInBounds_toArray, List.set_cons_zero, List.set_cons_succ]
    refine wpAnyH_take (i := 8) (v := ?_) (show _ = some ⟨some 100, _, _, _, _, _⟩ from rfl) (by kernel_rfl) (by kernel_rfl) (by kernel_rfl) (fun _ _ _ h => h) (Or.inl ⟨by kernel_rfl, ?_⟩) (by assumption) ?_
    rotate_left
    ·intro w' hSw; obtain ⟨s1, s2, s3, s4⟩ := HRD.out w' hSw; first | (go_simp; done) | (go_simp; with_reducible rfl)
    try simp only [Act.put, List.setIfInBounds_toArray, List.set_cons_zero, List.set_cons_succ]
    refine wpAnyH_take (i := 9) (v := ?_) (show _ = some ⟨some 101, _, _, _, _, _⟩ from rfl) (by kernel_rfl) (by kernel_rfl) (by kernel_rfl) (fun _ _ _ h => h) (Or.inl ⟨by kernel_rfl, ?_⟩) (by assumption) ?_
    rotate_left
    ·intro w' hSw; obtain ⟨s1, s2, s3, s4⟩ := HRD.out w' hSw; first | (go_simp; done) | (go_simp; with_reducible rfl)
    try simp only [Act.put, List.setIfInBounds_toArray, List.set_cons_zero, List.set_cons_succ]
    refine wpAnyH_take (i := 10) (v := ?_) (show _ = some ⟨some 102, _, _, _, _, _⟩ from rfl) (by kernel_rfl) (by kernel_rfl) (by kernel_rfl) (fun _ _ _ h => h) (Or.inl ⟨by kernel_rfl, ?_⟩) (by assumption) ?_
    rotate_left
    ·intro w' hSw; obtain ⟨s1, s2, s3, s4⟩ := HRD.out w' hSw; first | (go_simp; done) | (go_simp; with_reducible rfl)
    try simp only [Act.put, List.setIfInBounds_toArray, List.set_cons_zero, List.set_cons_succ]
    refine wpAnyH_take (i := 11) (v := ?_) (show _ = some ⟨some 103, _, _, _, _, _⟩ from rfl) (by kernel_rfl) (by kernel_rfl) (by kernel_rfl) (fun _ _ _ h => h) (Or.inl ⟨by kernel_rfl, ?_⟩) (by assumption) ?_
    rotate_left
    ·intro w' hSw; obtain ⟨s1, s2, s3, s4⟩ := HRD.out w' hSw; first | (go_simp; done) | (go_simp; with_reducible rfl)
    try simp only [Act.put, List.setIfInBounds_toArray, List.set_cons_zero, List.set_cons_succ]
    refine wpAnyH_take (i := 12) (v := ?_) (show _ = some ⟨some 104, _, _, _, _, _⟩ from rfl) (by kernel_rfl) (by kernel_rfl) (by kernel_rfl) (fun _ _ _ h => h) (Or.inl ⟨by kernel_rfl, ?_⟩) (by assumption) ?_
    rotate_left
    ·intro w' hSw; obtain ⟨s1, s2, s3, s4⟩ := HRD.out w' hSw; first | (go_simp; done) | (go_simp; with_reducible rfl)
    try simp only [Act.put, List.setIfInBounds_toArray, List.set_cons_zero, List.set_cons_succ]
    refine wpAnyH_take (i := 15) (v := ?_) (show _ = some ⟨some 107, _, _, _, _, _⟩ from rfl) (by kernel_rfl) (by kernel_rfl) (by kernel_rfl) (fun _ _ _ h => h) (Or.inl ⟨by kernel_rfl, ?_⟩) (by assumption) ?_
    rotate_left
    ·intro w' hSw; obtain ⟨s1, s2, s3, s4⟩ := HRD.out w' hSw; first | (go_simp; done) | (go_simp; with_reducible rfl)
    try simp only [Act.put, List.setIfInBounds_toArray, List.set_cons_zero, List.set_cons_succ]
    refine wpAnyH_take (i := 16) (v := ?_) (show _ = some ⟨some 108, _, _, _, _, _⟩ from rfl) (by kernel_rfl) (by kernel_rfl) (by kernel_rfl) (fun _ _ _ h => h) (Or.inl ⟨by kernel_rfl, ?_⟩) (by assumption) ?_
    rotate_left
    ·intro w' hSw; obtain ⟨s1, s2, s3, s4⟩ := HRD.out w' hSw; first | (go_simp; done) | (go_simp; with_reducible rfl)
    try simp only [Act.put, List.setIfInBounds_toArray, List.set_cons_zero, List.set_cons_succ]
    refine wpAnyH_take (i := 17) (v := ?_) (show _ = some ⟨some 109, _, _, _, _, _⟩ from rfl) (by kernel_rfl) (by kernel_rfl) (by kernel_rfl) (fun _ _ _ h => h) (Or.inl ⟨by kernel_rfl, ?_⟩) (by assumption) ?_
    rotate_left
    ·intro w' hSw; obtain ⟨s1, s2, s3, s4⟩ := HRD.out w' hSw; first | (go_simp; done) | (go_simp; with_reducible rfl)
    try simp only [Act.put, List.setIfInBounds_toArray, List.set_cons_zero, List.set_cons_succ]
    refine wpAnyH_take (i := 18) (v := ?_) (show _ = some ⟨some 110, _, _, _, _, _⟩ from rfl) (by kernel_rfl) (by kernel_rfl) (by kernel_rfl) (fun _ _ _ h => h) (Or.inl ⟨by kernel_rfl, ?_⟩) (by assumption) ?_
    rotate_left
    ·intro w' hSw; obtain ⟨s1, s2, s3, s4⟩ := HRD.out w' hSw; first | (go_simp; done) | (go_simp; with_reducible rfl)
    try simp only [Act.put, List.setIfInBounds_toArray, List.set_cons_zero, List.set_cons_succ]
    refine wpAnyH_take (i := 19) (v := ?_) (show _ = some ⟨some 111, _, _, _, _, _⟩ from rfl) (by kernel_rfl) (by kernel_rfl) (by kernel_rfl) (fun _ _ _ h => h) (Or.inl ⟨by kernel_rfl, ?_⟩) (by assumption) ?_
    rotate_left
    ·intro w' hSw; obtain ⟨s1, s2, s3, s4⟩ := HRD.out w' hSw; first | (go_simp; done) | (go_simp; with_reducible rfl)
    try simp only [Act.put, List.setIfInBounds_toArray, List.set_cons_zero, List.set_cons_succ]
    refine wpAnyH_take (i := 20) (v := ?_) (show _ = some ⟨some 112, _, _, _, _, _⟩ from rfl) (by kernel_rfl) (by kernel_rfl) (by kernel_rfl) (fun _ _ _ h => h) (Or.inl ⟨by kernel_rfl, ?_⟩) (by assumption) ?_
    rotate_left
    ·intro w' hSw; obtain ⟨s1, s2, s3, s4⟩ := HRD.out w' hSw; first | (go_simp; done) | (go_simp; with_reducible rfl)
    try simp only [Act.put, List.setIfInBounds_toArray, List.set_cons_zero, List.set_cons_succ]
    refine wpAnyH_take (i := 21) (v := ?_) (show _ = some ⟨some 113, _, _, _, _, _⟩ from rfl) (by kernel_rfl) (by kernel_rfl) (by kernel_rfl) (fun _ _ _ h => h) (Or.inl ⟨by kernel_rfl, ?_⟩) (by assumption) ?_
    rotate_left
    ·intro w' hSw; obtain ⟨s1, s2, s3, s4⟩ := HRD.out w' hSw; first | (go_simp; done) | (go_simp; with_reducible rfl)
    try simp only [Act.put, List.setIfInBounds_toArray, List.set_cons_zero, List.set_cons_succ]
    refine wpAnyH_take (i := 22) (v := ?_) (show _ = some ⟨some 114, _, _, _, _, _⟩ from rfl) (by kernel_rfl) (by kernel_rfl) (by kernel_rfl) (fun _ _ _ h => h) (Or.inl ⟨by kernel_rfl, ?_⟩) (by assumption) ?_
    rotate_left
    ·intro w' hSw; obtain ⟨s1, s2, s3, s4⟩ := HRD.out w' hSw; first | (go_simp; done) | (go_simp; with_reducible rfl)
    try simp only [Act.put, List.setIfInBounds_toArray, List.set_cons_zero, List.set_cons_succ]
    refine wpAnyH_take (i := 23) (v := ?_) (show _ = some ⟨some 115, _, _, _, _, _⟩ from rfl) (by kernel_rfl) (by kernel_rfl) (by kernel_rfl) (fun _ _ _ h => h) (Or.inl ⟨by kernel_rfl, ?_⟩) (by assumption) ?_
    rotate_left
    ·intro w' hSw; obtain ⟨s1, s2, s3, s4⟩ := HRD.out w' hSw; first | (go_simp; done) | (go_simp; with_reducible rfl)
    try simp only [Act.put, List.setIfInBounds_toArray, List.set_cons_zero, List.set_cons_succ]
    refine wpAnyH_take (i := 24) (v := ?_) (show _ = some ⟨some 116, _, _, _, _, _⟩ from rfl) (by kernel_rfl) (by kernel_rfl) (by kernel_rfl) (fun _ _ _ h => h) (Or.inl ⟨by kernel_rfl, ?_⟩) (by assumption) ?_
    rotate_left
    ·intro w' hSw; obtain ⟨s1, s2, s3, s4⟩ := HRD.out w' hSw; first | (go_simp; done) | (go_simp; with_reducible rfl)
    try simp only [Act.put, List.setIfInBounds_toArray, List.set_cons_zero, List.set_cons_succ]
    refine wpAnyH_take (i := 25) (v := ?_) (show _ = some ⟨some 117, _, _, _, _, _⟩ from rfl) (by kernel_rfl) (by kernel_rfl) (by kernel_rfl) (fun _ _ _ h => h) (Or.inl ⟨by kernel_rfl, ?_⟩) (by assumption) ?_
    rotate_left
    ·intro w' hSw; obtain ⟨s1, s2, s3, s4⟩ := HRD.out w' hSw; first | (go_simp; done) | (go_simp; with_reducible rfl)
    try simp only [Act.put, List.setIfInBounds_toArray, List.set_cons_zero, List.set_cons_succ]
    have hb2 : Below wA.heap.size wA (wr.alloc (.cells #[] 9)).drew := (Hbm.out.alloc hsz _).trans (Go.below_drewN (Below.refl _ _) 1)
    refine wpAnyH_ready (rs := [1]) (by kernel_rfl) (by simp) ?_
    refine AllReadyH.cons rfl (fun K hK => ?_) AllReadyH.nil
    go_simp
    refine hK.out _ _ hb2 (fun _ => ?_)
    clear hK K
    try simp only [Act.put, List.setIfInBounds_toArray, List.set_cons_zero, List.set_cons_succ]
    refine wpAnyH_ready (rs := [7]) (by kernel_rfl) (by simp) ?_
    refine AllReadyH.cons (show _ = some ⟨some 99, _, _, _, _, _⟩ from rfl) (fun K hK => ?_) AllReadyH.nil
    refine step_append_lies _ (by rfl) _ _ _ (by rfl) wr.heap.size 9 i0 _ 1 16 Tryz.underlying29 hi hz0 hz1 hz2 rfl (by decide) (.slice (some ⟨wr.heap.size, 0, none⟩) 0 0) 0 [] (by rfl) (own_drew (own_empty wr 9 1)) ⟨xb, xo, none⟩ x.ws.length x.cap (strs x.ws) (by rfl) (by simp [strs]) (HRX.out _ hb2) strs_one (by omega) (by unfold maxLen; omega) (by omega) (by simp) _ rfl ?_
    intro g3 cap3 w3 hown3 hgrow3 hat3 hlt3
    have hb3 : Below wA.heap.size wA w3 := hb2.grown hgrow3 (by simp; omega) (fun k hk => by cases hk; exact hsz)
    have hsz3 : wr.heap.size ≤ w3.heap.size := by have := hgrow3.size; simp at this; omega
    rw [Nat.zero_add, List.nil_append] at hown3
    rw [Nat.zero_add]
    refine hK.out _ _ hb3 (fun _ => ?_)
    clear hK K
    try simp only [Act.put, List.setIfInBounds_toArray, List.set_cons_zero, List.set_cons_succ]
    refine wpAnyH_ready (rs := [13]) (by kernel_rfl) (by simp) ?_
    refine AllReadyH.cons (show _ = some ⟨some 105, _, _, _, _, _⟩ from rfl) (fun K hK => ?_) AllReadyH.nil
    refine step_append_lies _ (by rfl) _ _ _ (by rfl) wr.heap.size 9 i0 _ 1 16 Tryz.underlying29 hi hz0 hz1 hz2 rfl (by decide) _ x.ws.length (strs x.ws) (by rfl) hown3 ⟨yb, yo, none⟩ y.ws.length y.cap (strs y.ws) (by rfl) (by simp [strs]) (HRY.out _ hb3) strs_one (by omega) (by unfold maxLen; omega) (by omega) (hsz3) _ rfl ?_
    intro g4 cap4 w4 hown4 hgrow4 hat4 hlt4
    have hb4 : Below wA.heap.size wA w4 := hb3.grown hgrow4 hb3.size (fun k hk => by have := (hown3.lt k hk).1; omega)
    rw [show strs x.ws ++ strs y.ws = strs (x.ws ++ y.ws) by simp [strs]] at hown4
    have hr4 : RowAt w4 w4.heap.size (some ⟨g4, 0, none⟩) (strs (x.ws ++ y.ws)) := by
     obtain ⟨a5, c5, e5, -, hr5⟩ := RowAt.of_own hown4
     cases e5
     exact hr5
    have hFd := Find_any L3 (x.ws ++ y.ws) a3 (some ⟨g4, 0, none⟩) c3 cap4 (by unfold maxLen; omega) w4 ((HA.out.2.2.2.below hb4 (Nat.le_refl _)).more hb4.size) hr4
    rw [HF.out, List.length_append] at hFd
    have HFd := Lib.hid hFd
    clear hFd
    refine hK.out _ _ hb4 (fun _ => ?_)
    clear hK K
    try simp only [Act.put, List.setIfInBounds_toArray, List.set_cons_zero, List.set_cons_succ]
    refine wpAnyH_ready (rs := [14]) (by kernel_rfl) (by simp) ?_
    refine AllReadyH.cons (show _ = some ⟨some 106, _, _, _, _, _⟩ from rfl) (fun K hK => ?_) AllReadyH.nil
    go_simp
    go_at_call 27
    refine HFd.out.mono ?_
    rintro e w5 ⟨rfl, q, hq⟩
    have hb5 : Below wA.heap.size wA w5 := by rw [hq]; exact Go.below_drewN hb4 q
    clear hq
    go_simp
    refine hK.out _ _ hb5 (fun _ => ?_)
    clear hK K
    try simp only [Act.put, List.setIfInBounds_toArray, List.set_cons_zero, List.set_cons_succ]
    refine wpAnyH_take (i := 26) (v := ?_) (show _ = some ⟨some 118, _, _, _, _, _⟩ from rfl) (by kernel_rfl) (by kernel_rfl) (by kernel_rfl) (fun _ _ _ h => h) (Or.inl ⟨by kernel_rfl, ?_⟩) (by assumption) ?_
    rotate_left
    ·intro w' hSw; obtain ⟨s1, s2, s3, s4⟩ := HRD.out w' hSw; first | (go_simp; done) | (go_simp; with_reducible rfl)
    try simp only [Act.put, List.setIfInBounds_toArray, List.set_cons_zero, List.set_cons_succ]
    refine wpAnyH_done (by kernel_rfl) ?_ _
    have Hb5 := Lib.hid hb5
    clear hb5 hb4 hb3 hb2 hbd hown3 hown4 hgrow3 hgrow4 hat3 hat4 hlt3 hlt4 hr4
    go_wp2_with fail
    exact ⟨⟨m + 1, by omega, by go_num, Hb5.out⟩, by simp [intOf]; omega⟩
end Go.Proofs.YthachfkcgdfdfaaGreatDoor
