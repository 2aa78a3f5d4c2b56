/- RE · BV -/
import Derived.Test.YthachfkcgdfdfaaGreatDoorP24
import Derived.Deep.AppendLies
import Derived.Deep.RegionHeld3
import Derived.Deep.CutBlock
import Derived.Deep.DeepCutAuto
import Derived.Test.YthachfkcgdfdfaaGreatDoorShelf
import Derived.Shelf.Strings.SplitCore
import Derived.Shelf.Strings.Count
import Derived.Lib.SplitLaws
/- Walk: the example bridge of layer 17's head. -/
namespace Go.Proofs.YthachfkcgdfdfaaGreatDoor
open Go.RowKit Go.Shelf Classical

theorem info_int17 : (Tryz.prog.info? 3).map (fun i => (i.zero, i.size, i.bytes)) = some (some (.int .i64 0), 1, 8) := by kernel_rfl
def letS : List ByteArray := smalls.map (fun c => bs [c])
def smallN : List Int := (List.range 26).map (fun i : Nat => (i : Int))
/-- The alphabet under way. -/
def ExC (b : Nat) (W0 : World) (k j : Nat) (lv sv : Value) (wr : World) : Prop :=
 Blk wr (b + 1) #[.string ⟨#[108, 97, 116, 105, 110]⟩, lv, sv] 89 ∧ wr.ownsRow (b + 2) 9 1 lv k (strs (letS.take k)) ∧ wr.ownsRow (b + 2) 3 1 sv j (nums (smallN.take j)) ∧ Below (b + 1) W0 wr
def ExI (b : Nat) (W0 : World) (k : Nat) (wr : World) : Prop := ∃ lv sv, ExC b W0 k k lv sv wr
theorem ex_let {b k : Nat} {W0 wr X2 : World} {la sa : Option Addr} {lc sc g cap : Nat} {c : ByteArray} (h : ExC b W0 k k (.slice la k lc) (.slice sa k sc) wr) (hc : letS[k]? = some c)
  (hown : X2.ownsRow (b + 2) 9 1 (.slice (some ⟨g, 0, none⟩) (k + 1) cap) (k + 1) (strs (letS.take k) ++ [.string c])) (hgrow : ((wr.alloc (.cells #[.string c] 9)).drew).grownBy X2 (Value.slice la k lc).ownBlock) :
  Blk X2 (b + 1) #[.string ⟨#[108, 97, 116, 105, 110]⟩, .slice la k lc, .slice sa k sc] 89 ∧ ExC b W0 (k + 1) k (.slice (some ⟨g, 0, none⟩) (k + 1) cap) (.slice sa k sc) (X2.setCell ⟨b + 1, 1, none⟩ (.slice (some ⟨g, 0, none⟩) (k + 1) cap)) := by
 obtain ⟨h1, h2, h3, h4⟩ := h
 have hbx : Below wr.heap.size wr (wr.alloc (.cells #[.string c] 9)).drew := ((Below.refl _ _).alloc (Nat.le_refl _) _).drew
 have h2x := own_below h2 hbx
 have h3x := own_below h3 hbx
 have b1 := h1.below hbx h1.lt
 have b2 := b1.grown hgrow (fun e => Blk.own_ne b1 h2x (by decide) e.symm)
 have h32 := own_kept_other h3x h2x (by decide) hgrow
 have hbw : Below (b + 1) W0 X2 := (h4.trans (hbx.mono (by have := h1.lt; omega))).grown hgrow (by have := h1.lt; have := h4.size; have := hbx.size; omega) (fun j hj => by have := (h2.lt j hj).1; omega)
 refine ⟨b2, b2.set_ 1 _, ?_, own_setCell h32 (fun e => Blk.own_ne b2 h32 (by decide) e) _, hbw.setCell (Nat.le_refl _) _⟩
 have e : strs (letS.take (k + 1)) = strs (letS.take k) ++ [.string c] := by rw [List.take_add_one, hc, Option.toList_some]; simp [strs]
 rw [e]
 exact own_setCell hown (fun e => Blk.own_ne b2 hown (by decide) e) _
theorem ex_small {b k : Nat} {W0 X3 w9 : World} {la sa a9 : Option Addr} {lc sc c9 : Nat} (h : ExC b W0 (k + 1) k (.slice la (k + 1) lc) (.slice sa k sc) X3) (hk : k < 26)
  (hown : w9.ownsRow (b + 2) 3 1 (.slice a9 (k + 1) c9) (k + 1) (nums (smallN.take k) ++ [.int .i64 (k : Int)])) (hgrow : (X3.alloc (.cells #[.int .i64 (k : Int)] 3)).grownBy w9 (Value.slice sa k sc).ownBlock) :
  Blk w9 (b + 1) #[.string ⟨#[108, 97, 116, 105, 110]⟩, .slice la (k + 1) lc, .slice sa k sc] 89 ∧ ExI b W0 (k + 1) (w9.setCell ⟨b + 1, 2, none⟩ (.slice a9 (k + 1) c9)) := by
 obtain ⟨h1, h2, h3, h4⟩ := h
 have hbx : Below X3.heap.size X3 (X3.alloc (.cells #[.int .i64 (k : Int)] 3)) := (Below.refl _ _).alloc (Nat.le_refl _) _
 have h2x := own_below h2 hbx
 have h3x := own_below h3 hbx
 have b1 := h1.below hbx h1.lt
 have b2 := b1.grown hgrow (fun e => Blk.own_ne b1 h3x (by decide) e.symm)
 have h22 := own_kept_other h2x h3x (by decide) hgrow
 have hbw : Below (b + 1) W0 w9 := (h4.trans (hbx.mono (by have := h1.lt; omega))).grown hgrow (by have := h1.lt; have := h4.size; have := hbx.size; omega) (fun j hj => by have := (h3.lt j hj).1; omega)
 refine ⟨b2, _, _, b2.set_ 2 _, own_setCell h22 (fun e => Blk.own_ne b2 h22 (by decide) e) _, ?_, hbw.setCell (Nat.le_refl _) _⟩
 have e : nums (smallN.take (k + 1)) = nums (smallN.take k) ++ [.int .i64 (k : Int)] := by
  have : smallN[k]? = some (k : Int) := by simp [smallN, hk]
  rw [List.take_add_one, this, Option.toList_some]; simp [nums]
 rw [e]
 exact own_setCell hown (fun e => Blk.own_ne b2 hown (by decide) e) _
theorem abc_ext : ∀ k : Fin 26, letS[k.1]? = some ((⟨#[97, 98, 99, 100, 101, 102, 103, 104, 105, 106, 107, 108, 109, 110, 111, 112, 113, 114, 115, 116, 117, 118, 119, 120, 121, 122]⟩ : ByteArray).extract k.1 (k.1 + 1)) := by decide
theorem row_blk {W : World} {p : Nat} {xs : List Value} {t : TypeId} (h : Blk W p xs.toArray t) : RowAt W W.heap.size (some ⟨p, 0, none⟩) xs := fun _ => ⟨p, 0, rfl, h.lt, fun i x hi => by
 rw [Nat.zero_add]; exact (h.cell i).trans (by simpa using hi)⟩
theorem rows_blk {W : World} {p k : Nat} {rows : List (List Value)} {t : TypeId} (h : Blk W p rows.flatten.toArray t) (hk : ∀ r ∈ rows, r.length = k) : RowsAt W W.heap.size k (some ⟨p, 0, none⟩) rows := fun _ => ⟨p, 0, rfl, h.lt, fun i r hi j x hj => by
 have key : ∀ (rows : List (List Value)), (∀ r ∈ rows, r.length = k) → ∀ (i : Nat) (r : List Value), rows[i]? = some r → ∀ (j : Nat) (x : Value), r[j]? = some x → rows.flatten[i * k + j]? = some x := by
  intro rows
  induction rows with
  | nil => intro _ i r hi; simp at hi
  | cons a l ih =>
   intro hk i r hi j x hj
   have ha := hk a (List.mem_cons_self ..)
   match i, hi with
   | 0, hi =>
    obtain rfl : a = r := by simpa using hi
    rw [List.flatten_cons, Nat.zero_mul, Nat.zero_add, List.getElem?_append_left (List.getElem?_eq_some_iff.1 hj).1]
    exact hj
   | i + 1, hi =>
    rw [List.flatten_cons, List.getElem?_append_right (by rw [ha, Nat.succ_mul]; omega), ha, show (i + 1) * k + j - k = i * k + j by rw [Nat.succ_mul]; omega]
    exact ih (fun r hr => hk r (List.mem_cons_of_mem _ hr)) i r (by simpa using hi) j x hj
 rw [Nat.zero_add]
 exact (h.cell (i * k + j)).trans (by have := key rows hk i r hi j x hj; simpa using this)⟩
theorem ex_final {W : World} {p q u1 u2 r base : Nat} {la sa : Option Addr} {lc sc : Nat}
  (hS : Blk W p #[.string ⟨#[108, 97, 116, 105, 110]⟩, .slice la 26 lc, .slice sa 26 sc, .string ⟨#[117, 112, 112, 101, 114]⟩, .slice (some ⟨u1, 0, none⟩) 3 3, .slice (some ⟨u2, 0, none⟩) 3 3] 89)
  (hL : W.ownsRow base 9 1 (.slice la 26 lc) 26 (strs letS)) (hN : W.ownsRow base 3 1 (.slice sa 26 sc) 26 (nums smallN))
  (h1 : Blk W u1 #[.string ⟨#[65]⟩, .string ⟨#[78]⟩, .string ⟨#[67]⟩] 9) (h2 : Blk W u2 #[.int .i64 0, .int .i64 1, .int .i64 2] 3)
  (hR : Blk W r #[.string ⟨#[65]⟩, .string ⟨#[97]⟩, .string ⟨#[]⟩, .bool false, .string ⟨#[78]⟩, .string ⟨#[110]⟩, .string ⟨#[]⟩, .bool false, .string ⟨#[67]⟩, .string ⟨#[99, 104]⟩, .string ⟨#[]⟩, .bool false] 103)
  (hQ : Blk W q #[.string ⟨#[117, 112, 112, 101, 114]⟩, .string ⟨#[108, 97, 116, 105, 110]⟩, .slice (some ⟨r, 0, none⟩) 3 3] 106) :
  BridAt W W.heap.size (.agg #[.slice (some ⟨p, 0, none⟩) 2 2, .slice (some ⟨q, 0, none⟩) 1 1]) exB := by
 have el : latinA.letters = letS := rfl
 have es : latinA.small = smallN := by decide
 obtain ⟨a1, b1, e1, -, r1⟩ := RowAt.of_own hL
 cases e1
 obtain ⟨a2, b2, e2, -, r2⟩ := RowAt.of_own hN
 cases e2
 have hLat : AlphAt W W.heap.size (.agg #[.string ⟨#[108, 97, 116, 105, 110]⟩, .slice la 26 lc, .slice sa 26 sc]) latinA := by
  refine ⟨la, lc, sa, sc, rfl, by decide, by decide, by decide, fun s hs => ?_, by rw [el]; exact r1, by rw [es]; exact r2⟩
  rw [el] at hs
  obtain ⟨c, _, rfl⟩ := List.mem_map.1 hs
  show (bs [c]).size ≤ maxLen
  rw [← bl_length, bl_bs]; unfold maxLen; simp
 have hUp : AlphAt W W.heap.size (.agg #[.string ⟨#[117, 112, 112, 101, 114]⟩, .slice (some ⟨u1, 0, none⟩) 3 3, .slice (some ⟨u2, 0, none⟩) 3 3]) upperA := by
  refine ⟨some ⟨u1, 0, none⟩, 3, some ⟨u2, 0, none⟩, 3, rfl, by decide, by decide, by decide, fun s hs => ?_, row_blk (xs := strs upperA.letters) h1, row_blk (xs := nums upperA.small) h2⟩
  obtain ⟨c, _, rfl⟩ := List.mem_map.1 (show s ∈ ([65, 78, 67] : List UInt8).map (fun c => bs [c]) from hs)
  rw [← bl_length, bl_bs]; unfold maxLen; simp
 have hRu : RulsAt W W.heap.size (.agg #[.string ⟨#[117, 112, 112, 101, 114]⟩, .string ⟨#[108, 97, 116, 105, 110]⟩, .slice (some ⟨r, 0, none⟩) 3 3]) exR := by
  refine ⟨some ⟨r, 0, none⟩, 3, rfl, by decide, by decide, by decide, fun x hx => ?_, rows_blk (rows := exR.list.map Rul.cells) hR (by simp [exR, Rul.cells])⟩
  simp only [exR, List.mem_cons, List.not_mem_nil, or_false] at hx
  rcases hx with rfl | rfl | rfl <;> exact ⟨by decide, by decide, by decide⟩
 refine ⟨_, _, _, _, rfl, by decide, by decide, ⟨[[.string ⟨#[108, 97, 116, 105, 110]⟩, .slice la 26 lc, .slice sa 26 sc], [.string ⟨#[117, 112, 112, 101, 114]⟩, .slice (some ⟨u1, 0, none⟩) 3 3, .slice (some ⟨u2, 0, none⟩) 3 3]], rfl, rows_blk (rows := [_, _]) hS (by simp), fun i r A hr hA => ?_⟩, ⟨[[.string ⟨#[117, 112, 112, 101, 114]⟩, .string ⟨#[108, 97, 116, 105, 110]⟩, .slice (some ⟨r, 0, none⟩) 3 3]], rfl, rows_blk (rows := [_]) hQ (by simp), fun i r A hr hA => ?_⟩⟩
 ·match i, hr, hA with
  | 0, hr, hA =>
   obtain rfl := Option.some.inj hr
   obtain rfl : latinA = A := Option.some.inj hA
   exact hLat
  | 1, hr, hA =>
   obtain rfl := Option.some.inj hr
   obtain rfl : upperA = A := Option.some.inj hA
   exact hUp
  | i + 2, hr, hA => simp at hr
 ·match i, hr, hA with
  | 0, hr, hA =>
   obtain rfl := Option.some.inj hr
   obtain rfl : exR = A := Option.some.inj hA
   exact hRu
  | i + 1, hr, hA => simp at hr
set_option maxRecDepth 100000 in
set_option maxHeartbeats 2000000 in
theorem example_any (w : World) : Calls Tryz.prog 28 #[] w fun e w' => ∃ v, e = .returned v ∧ BridAt w' w'.heap.size v exB ∧ Below w.heap.size w w' := by
 obtain ⟨i0, hi, hz0, hz1, hz2⟩ := info_parts info_str17
 obtain ⟨j0, hj, hj0, hj1, hj2⟩ := info_parts info_int17
 go_enter Tryz.func28, Tryz.ntmps28
 go_upto_region 2 with (fail)
 obtain ⟨W0, hW0⟩ : ∃ W0 : World, W0 = (w.alloc (.cells #[.slice none 0 0, .slice none 0 0] 25)).alloc (.cells #[.string ⟨#[108, 97, 116, 105, 110]⟩, .slice none 0 0, .slice none 0 0] 89) := ⟨_, rfl⟩
 rw [← hW0]
 have hb0 : Below w.heap.size w W0 := by rw [hW0]; exact ((Below.refl _ _).alloc (Nat.le_refl _) _).alloc (by simp) _
 have hs0 : W0.heap.size = w.heap.size + 2 := by rw [hW0]; simp
 have k0 : Blk W0 w.heap.size #[.slice none 0 0, .slice none 0 0] 25 := by rw [hW0]; exact (Blk.new _ _ _).alloc _
 have k1 : Blk W0 (w.heap.size + 1) #[.string ⟨#[108, 97, 116, 105, 110]⟩, .slice none 0 0, .slice none 0 0] 89 := by rw [hW0]; have := Blk.new (w.alloc (.cells #[.slice none 0 0, .slice none 0 0] 25)) #[.string ⟨#[108, 97, 116, 105, 110]⟩, .slice none 0 0, .slice none 0 0] 89; simpa using this
 obtain ⟨b, hb⟩ : ∃ b, w.heap.size = b := ⟨_, rfl⟩
 rw [hb] at hb0 hs0 k0 k1 ⊢
 have H0 := Lib.hid (And.intro hb0 (And.intro k0 (And.intro k1 hb)))
 clear hW0 hb0 k0 k1 hb
 go_wp2_with fail
 go_loopw [2] (fun i wr => ∃ k : Nat, k ≤ 26 ∧ i = .int .i64 k ∧ ExI b W0 k wr) (fun i _ => 26 - (intOf i).toNat)
 case atStart => exact ⟨0, Nat.zero_le _, rfl, _, _, H0.out.2.2.1, World.ownsRow_nil _ _ _ _, World.ownsRow_nil _ _ _ _, Below.refl _ _⟩
 case round =>
  obtain ⟨k, hk, rfl, lv, sv, hR⟩ := hrel
  by_cases hkl : k < 26
  ·obtain ⟨la, lc, rfl, -, -⟩ := RowAt.of_own hR.2.1
   obtain ⟨sa, sc, rfl, -, -⟩ := RowAt.of_own hR.2.2.1
   have hbs := hR.2.2.2.size
   obtain ⟨c, hext⟩ : ∃ c, (⟨#[97, 98, 99, 100, 101, 102, 103, 104, 105, 106, 107, 108, 109, 110, 111, 112, 113, 114, 115, 116, 117, 118, 119, 120, 121, 122]⟩ : ByteArray).extract k (k + 1) = c := ⟨_, rfl⟩
   have hlet := Lib.hid (show letS[k]? = some c by rw [← hext]; exact abc_ext ⟨k, hkl⟩)
   have hA : 0 ≤ (k : Int) + 1 ∧ (k : Int) + 1 ≤ 26 := by omega
   have hC : (k : Int) ≤ (k : Int) + 1 := by omega
   have hwr : IntKind.i64.wrap ((k : Int) + 1) = (k : Int) + 1 := IntWalk.i64_in _ (by omega)
   have c1 : wr.cell? ⟨b + 1, 1, none⟩ = some (.slice la k lc) := hR.1.cell 1
   have c1a : (wr.alloc (.cells #[.string c] 9)).cell? ⟨b + 1, 1, none⟩ = some (.slice la k lc) := (hR.1.alloc _).cell 1
   have HX := Lib.hid (And.intro (own_below hR.2.1 (((Below.refl _ wr).alloc (Nat.le_refl _) (.cells #[.string c] 9)).drew)) trivial)
   have HR := Lib.hid hR
   clear hR
   go_upto_region 5 with (fail)
   refine wp_region_held_drew (S := fun _ => True) (by kernel_rfl) trivial (fun hHeld => ?_)
   refine wpAnyH_take (i := 0) (v := .pointer (some ⟨b + 1, 1, none⟩)) rfl (by kernel_rfl) (by kernel_rfl) (by kernel_rfl) (fun _ _ _ h => h) (Or.inl ⟨by rfl, ?_⟩) (by assumption) ?_
   ·intro w' _; first | (go_simp; done) | (go_simp; with_reducible rfl)
   try simp only [Act.put, List.getElem_toArray, List.getElem_cons_zero, List.setIfInBounds_toArray, List.set_cons_zero, List.set_cons_succ]
   refine wpAnyH_take (i := 2) (v := .int .i64 k) rfl (by kernel_rfl) (by kernel_rfl) (by kernel_rfl) (fun _ _ _ h => h) (Or.inl ⟨by rfl, ?_⟩) (by assumption) ?_
   ·intro w' _; first | (go_simp; done) | (go_simp; with_reducible rfl)
   try simp only [Act.put, List.getElem_toArray, List.getElem_cons_succ, List.getElem_cons_zero, List.setIfInBounds_toArray, List.set_cons_zero, List.set_cons_succ]
   refine wpAnyH_take (i := 3) (v := .int .i64 k) rfl (by kernel_rfl) (by kernel_rfl) (by kernel_rfl) (fun _ _ _ h => h) (Or.inl ⟨by rfl, ?_⟩) (by assumption) ?_
   ·intro w' _; first | (go_simp; done) | (go_simp; with_reducible rfl)
   try simp only [Act.put, List.getElem_toArray, List.getElem_cons_succ, List.getElem_cons_zero, List.setIfInBounds_toArray, List.set_cons_zero, List.set_cons_succ]
   refine wpAnyH_take (i := 4) (v := .int .i64 ((k : Int) + 1)) rfl (by kernel_rfl) (by kernel_rfl) (by kernel_rfl) (fun _ _ _ h => h) (Or.inl ⟨by rfl, ?_⟩) (by assumption) ?_
   ·intro w' _; first | (go_simp; done) | (go_simp; with_reducible rfl)
   try simp only [Act.put, List.getElem_toArray, List.getElem_cons_succ, List.getElem_cons_zero, List.setIfInBounds_toArray, List.set_cons_zero, List.set_cons_succ]
   refine wpAnyH_take (i := 5) (v := .string c) rfl (by kernel_rfl) (by kernel_rfl) (by kernel_rfl) (fun _ _ _ h => h) (Or.inl ⟨by rfl, ?_⟩) (by assumption) ?_
   ·intro w' _; first | (go_simp; done) | (go_simp; with_reducible rfl)
   try simp only [Act.put, List.getElem_toArray, List.getElem_cons_succ, List.getElem_cons_zero, List.setIfInBounds_toArray, List.set_cons_zero, List.set_cons_succ]
   refine wpAnyH_ready (rs := [1, 6]) (by kernel_rfl) (by simp) ?_
   refine (AllReadyH.cons rfl (fun K hK => ?_) (AllReadyH.cons rfl (fun K hK => ?_) AllReadyH.nil))
   ·go_simp
    refine hK.out _ _ trivial (fun _ => ?_)
    clear hK K
    try simp only [Act.put, List.getElem_toArray, List.getElem_cons_succ, List.getElem_cons_zero, List.setIfInBounds_toArray, List.set_cons_zero, List.set_cons_succ]
    refine wpAnyH_ready (rs := [6]) (by kernel_rfl) (by simp) ?_
    refine AllReadyH.cons rfl (fun K hK => ?_) AllReadyH.nil
    go_simp
    refine hK.out _ _ trivial (fun _ => ?_)
    clear hK K
    try simp only [Act.put, List.getElem_toArray, List.getElem_cons_succ, List.getElem_cons_zero, List.setIfInBounds_toArray, List.set_cons_zero, List.set_cons_succ]
    refine wpAnyH_ready (rs := [7]) (by kernel_rfl) (by simp) ?_
    refine AllReadyH.cons rfl (fun K hK => ?_) AllReadyH.nil
    refine step_append_lies _ (by rfl) _ _ _ (by rfl) (b + 2) 9 i0 (.string ByteArray.empty) 1 16 Tryz.underlying29 hi hz0 hz1 hz2 rfl (by decide) (.slice la k lc) k (strs (letS.take k)) (by rfl) HX.out.1 ⟨wr.heap.size, 0, none⟩ 1 1 [.string c] (by rfl) rfl (by exact cell_one_new _ _ _) (by simp [Value.oneCell']) (by decide) (by unfold maxLen; omega) (by omega) (by simp; omega) _ rfl ?_
    intro g cap X2 hown2 hgrow hat hlt
    have HE := Lib.hid (ex_let HR.out hlet.out hown2 hgrow)
    have e1 : X2.cell? ⟨b + 1, 1, none⟩ = some (.slice la k lc) := HE.out.1.cell 1
    have f1 : X2.frozen? ⟨b + 1, 1, none⟩ = false := HE.out.1.frozen 1
    clear hat hlt hown2 hgrow
    refine hK.out _ _ trivial (fun _ => ?_)
    clear hK K
    try simp only [Act.put, List.getElem_toArray, List.getElem_cons_succ, List.getElem_cons_zero, List.setIfInBounds_toArray, List.set_cons_zero, List.set_cons_succ]
    refine wpAnyH_ready (rs := [8]) (by kernel_rfl) (by simp) ?_
    refine AllReadyH.cons rfl (fun K hK => ?_) AllReadyH.nil
    go_simp
    refine hK.out _ _ trivial (fun _ => ?_)
    clear hK K
    try simp only [Act.put, List.getElem_toArray, List.getElem_cons_succ, List.getElem_cons_zero, List.setIfInBounds_toArray, List.set_cons_zero, List.set_cons_succ]
    refine wpAnyH_ready (rs := [9]) (by kernel_rfl) (by simp) ?_
    refine AllReadyH.cons rfl (fun K hK => ?_) AllReadyH.nil
    go_simp
    refine hK.out _ _ trivial (fun _ => ?_)
    clear hK K
    try simp only [Act.put, List.getElem_toArray, List.getElem_cons_succ, List.getElem_cons_zero, List.setIfInBounds_toArray, List.set_cons_zero, List.set_cons_succ]
    refine wpAnyH_done (by kernel_rfl) ?_ _
    obtain ⟨X3, hX3⟩ : ∃ X3 : World, X3 = X2.setCell ⟨b + 1, 1, none⟩ (.slice (some ⟨g, 0, none⟩) (k + 1) cap) := ⟨_, rfl⟩
    rw [← hX3]
    have H3 := HE.out.2
    rw [← hX3] at H3
    have H3 := Lib.hid H3
    have d2 : X3.cell? ⟨b + 1, 2, none⟩ = some (.slice sa k sc) := H3.out.1.cell 2
    have hz3 := H3.out.2.2.2.size
    clear hX3 HE e1 f1 c1 c1a HX HR
    go_wp2_with (at_builtin; refine wpList_append_own _ rfl _ _ 85 rfl (b + 2) 3 j0 _ 1 8 Tryz.underlying85 hj hj0 hj1 hj2 rfl (by decide) _ _ _ rfl (H3.out.2.2.1.alloc _) ⟨X3.heap.size, 0, none⟩ 1 1 [.int .i64 (k : Int)] rfl rfl (by exact cell_one_new _ _ _) (by simp [Value.oneCell']) (by unfold maxLen; omega) (by omega) (by simp; omega) ?_)
    intro v9 w9 hown9 hgrow9 _
    obtain ⟨a9, c9, rfl, -, -⟩ := RowAt.of_own hown9
    have HN := Lib.hid (ex_small (k := k) H3.out hkl hown9 hgrow9)
    have g2 : w9.cell? ⟨b + 1, 2, none⟩ = some (.slice sa k sc) := HN.out.1.cell 2
    have gf : w9.frozen? ⟨b + 1, 2, none⟩ = false := HN.out.1.frozen 2
    clear d2 hown9 hgrow9 H3
    go_wp2_with fail
    exact ⟨⟨k + 1, by omega, by go_num, HN.out.2⟩, by simp [intOf]; omega⟩
   ·go_simp
    refine hK.out _ _ trivial (fun _ => ?_)
    clear hK K
    try simp only [Act.put, List.getElem_toArray, List.getElem_cons_succ, List.getElem_cons_zero, List.setIfInBounds_toArray, List.set_cons_zero, List.set_cons_succ]
    refine wpAnyH_ready (rs := [1]) (by kernel_rfl) (by simp) ?_
    refine AllReadyH.cons rfl (fun K hK => ?_) AllReadyH.nil
    go_simp
    refine hK.out _ _ trivial (fun _ => ?_)
    clear hK K
    try simp only [Act.put, List.getElem_toArray, List.getElem_cons_succ, List.getElem_cons_zero, List.setIfInBounds_toArray, List.set_cons_zero, List.set_cons_succ]
    refine wpAnyH_ready (rs := [7]) (by kernel_rfl) (by simp) ?_
    refine AllReadyH.cons rfl (fun K hK => ?_) AllReadyH.nil
    refine step_append_lies _ (by rfl) _ _ _ (by rfl) (b + 2) 9 i0 (.string ByteArray.empty) 1 16 Tryz.underlying29 hi hz0 hz1 hz2 rfl (by decide) (.slice la k lc) k (strs (letS.take k)) (by rfl) HX.out.1 ⟨wr.heap.size, 0, none⟩ 1 1 [.string c] (by rfl) rfl (by exact cell_one_new _ _ _) (by simp [Value.oneCell']) (by decide) (by unfold maxLen; omega) (by omega) (by simp; omega) _ rfl ?_
    intro g cap X2 hown2 hgrow hat hlt
    have HE := Lib.hid (ex_let HR.out hlet.out hown2 hgrow)
    have e1 : X2.cell? ⟨b + 1, 1, none⟩ = some (.slice la k lc) := HE.out.1.cell 1
    have f1 : X2.frozen? ⟨b + 1, 1, none⟩ = false := HE.out.1.frozen 1
    clear hat hlt hown2 hgrow
    refine hK.out _ _ trivial (fun _ => ?_)
    clear hK K
    try simp only [Act.put, List.getElem_toArray, List.getElem_cons_succ, List.getElem_cons_zero, List.setIfInBounds_toArray, List.set_cons_zero, List.set_cons_succ]
    refine wpAnyH_ready (rs := [8]) (by kernel_rfl) (by simp) ?_
    refine AllReadyH.cons rfl (fun K hK => ?_) AllReadyH.nil
    go_simp
    refine hK.out _ _ trivial (fun _ => ?_)
    clear hK K
    try simp only [Act.put, List.getElem_toArray, List.getElem_cons_succ, List.getElem_cons_zero, List.setIfInBounds_toArray, List.set_cons_zero, List.set_cons_succ]
    refine wpAnyH_ready (rs := [9]) (by kernel_rfl) (by simp) ?_
    refine AllReadyH.cons rfl (fun K hK => ?_) AllReadyH.nil
    go_simp
    refine hK.out _ _ trivial (fun _ => ?_)
    clear hK K
    try simp only [Act.put, List.getElem_toArray, List.getElem_cons_succ, List.getElem_cons_zero, List.setIfInBounds_toArray, List.set_cons_zero, List.set_cons_succ]
    refine wpAnyH_done (by kernel_rfl) ?_ _
    obtain ⟨X3, hX3⟩ : ∃ X3 : World, X3 = X2.setCell ⟨b + 1, 1, none⟩ (.slice (some ⟨g, 0, none⟩) (k + 1) cap) := ⟨_, rfl⟩
    rw [← hX3]
    have H3 := HE.out.2
    rw [← hX3] at H3
    have H3 := Lib.hid H3
    have d2 : X3.cell? ⟨b + 1, 2, none⟩ = some (.slice sa k sc) := H3.out.1.cell 2
    have hz3 := H3.out.2.2.2.size
    clear hX3 HE e1 f1 c1 c1a HX HR
    go_wp2_with (at_builtin; refine wpList_append_own _ rfl _ _ 85 rfl (b + 2) 3 j0 _ 1 8 Tryz.underlying85 hj hj0 hj1 hj2 rfl (by decide) _ _ _ rfl (H3.out.2.2.1.alloc _) ⟨X3.heap.size, 0, none⟩ 1 1 [.int .i64 (k : Int)] rfl rfl (by exact cell_one_new _ _ _) (by simp [Value.oneCell']) (by unfold maxLen; omega) (by omega) (by simp; omega) ?_)
    intro v9 w9 hown9 hgrow9 _
    obtain ⟨a9, c9, rfl, -, -⟩ := RowAt.of_own hown9
    have HN := Lib.hid (ex_small (k := k) H3.out hkl hown9 hgrow9)
    have g2 : w9.cell? ⟨b + 1, 2, none⟩ = some (.slice sa k sc) := HN.out.1.cell 2
    have gf : w9.frozen? ⟨b + 1, 2, none⟩ = false := HN.out.1.frozen 2
    clear d2 hown9 hgrow9 H3
    go_wp2_with fail
    exact ⟨⟨k + 1, by omega, by go_num, HN.out.2⟩, by simp [intOf]; omega⟩
  ·obtain rfl : k = 26 := by omega
   obtain ⟨la, lc, rfl, -, -⟩ := RowAt.of_own hR.2.1
   obtain ⟨sa, sc, rfl, -, -⟩ := RowAt.of_own hR.2.2.1
   have HR := Lib.hid hR
   clear hR
   go_upto_region 9 with (fail)
   generalize hW9 : ((((wr.alloc _).alloc _).alloc _).alloc _) = W9
   have hbs := HR.out.2.2.2.size
   obtain ⟨o, ho⟩ : ∃ o, wr.heap.size = o := ⟨_, rfl⟩
   have ku1 : Blk W9 o #[.string ⟨#[65]⟩, .string ⟨#[78]⟩, .string ⟨#[67]⟩] 9 := by rw [← hW9, ← ho]; exact (((Blk.new _ _ _).alloc _).alloc _).alloc _
   have ku2 : Blk W9 (o + 1) #[.int .i64 0, .int .i64 1, .int .i64 2] 3 := by
    rw [← hW9, ← ho]
    have := (((Blk.new (wr.alloc (.cells #[.string ⟨#[65]⟩, .string ⟨#[78]⟩, .string ⟨#[67]⟩] 9)) #[.int .i64 0, .int .i64 1, .int .i64 2] 3).alloc (.cells #[.string ⟨#[117, 112, 112, 101, 114]⟩, .slice (some ⟨wr.heap.size, 0, none⟩) 3 3, .slice (some ⟨wr.heap.size + 1, 0, none⟩) 3 3] 89)))
    simp only [World.size_alloc] at this
    exact this.alloc _
   have kup : Blk W9 (o + 2) #[.string ⟨#[117, 112, 112, 101, 114]⟩, .slice (some ⟨o, 0, none⟩) 3 3, .slice (some ⟨o + 1, 0, none⟩) 3 3] 89 := by
    rw [← hW9, ← ho]
    have := (Blk.new ((wr.alloc (.cells #[.string ⟨#[65]⟩, .string ⟨#[78]⟩, .string ⟨#[67]⟩] 9)).alloc (.cells #[.int .i64 0, .int .i64 1, .int .i64 2] 3)) #[.string ⟨#[117, 112, 112, 101, 114]⟩, .slice (some ⟨wr.heap.size, 0, none⟩) 3 3, .slice (some ⟨wr.heap.size + 1, 0, none⟩) 3 3] 89)
    simp only [World.size_alloc] at this
    exact this.alloc _
   have kru : Blk W9 (o + 3) #[.string ⟨#[65]⟩, .string ⟨#[97]⟩, .string ⟨#[]⟩, .bool false, .string ⟨#[78]⟩, .string ⟨#[110]⟩, .string ⟨#[]⟩, .bool false, .string ⟨#[67]⟩, .string ⟨#[99, 104]⟩, .string ⟨#[]⟩, .bool false] 103 := by
    rw [← hW9, ← ho]
    have := Blk.new (((wr.alloc (.cells #[.string ⟨#[65]⟩, .string ⟨#[78]⟩, .string ⟨#[67]⟩] 9)).alloc (.cells #[.int .i64 0, .int .i64 1, .int .i64 2] 3)).alloc (.cells #[.string ⟨#[117, 112, 112, 101, 114]⟩, .slice (some ⟨wr.heap.size, 0, none⟩) 3 3, .slice (some ⟨wr.heap.size + 1, 0, none⟩) 3 3] 89)) #[.string ⟨#[65]⟩, .string ⟨#[97]⟩, .string ⟨#[]⟩, .bool false, .string ⟨#[78]⟩, .string ⟨#[110]⟩, .string ⟨#[]⟩, .bool false, .string ⟨#[67]⟩, .string ⟨#[99, 104]⟩, .string ⟨#[]⟩, .bool false] 103
    simp only [World.size_alloc] at this
    exact this
   have hb9 : Below wr.heap.size wr W9 := by rw [← hW9]; exact ((((Below.refl _ _).alloc (Nat.le_refl _) _).alloc (by simp) _).alloc (by simp; omega) _).alloc (by simp; omega) _
   have hs9 : W9.heap.size = o + 4 := by rw [← hW9]; simp [ho]
   clear hW9
   have k1 := HR.out.1.below hb9 HR.out.1.lt
   have k0 := (H0.out.2.1.below HR.out.2.2.2 (by omega)).below hb9 (by omega)
   have HF := Lib.hid (And.intro ku1 (And.intro ku2 (And.intro kup (And.intro kru (And.intro (own_below HR.out.2.1 hb9) (And.intro (own_below HR.out.2.2.1 hb9) (And.intro k0 (HR.out.2.2.2.trans (hb9.mono (by omega))))))))))
   rw [ho]
   have x0 : W9.cell? ⟨b + 1, 0, none⟩ = _ := k1.cell 0
   have x1 : W9.cell? ⟨b + 1, 1, none⟩ = _ := k1.cell 1
   have x2 : W9.cell? ⟨b + 1, 2, none⟩ = _ := k1.cell 2
   have y0 : W9.cell? ⟨o + 2, 0, none⟩ = _ := kup.cell 0
   have y1 : W9.cell? ⟨o + 2, 1, none⟩ = _ := kup.cell 1
   have y2 : W9.cell? ⟨o + 2, 2, none⟩ = _ := kup.cell 2
   simp only [List.getElem?_toArray, List.getElem?_cons_zero, List.getElem?_cons_succ] at x0 x1 x2 y0 y1 y2
   have hbo : b < o := by omega
   obtain ⟨Wb, hWb⟩ : ∃ Wb : World, Wb = (W9.alloc (.cells #[.string ⟨#[108, 97, 116, 105, 110]⟩, .slice la 26 lc, .slice sa 26 sc, .string ⟨#[117, 112, 112, 101, 114]⟩, .slice (some ⟨o, 0, none⟩) 3 3, .slice (some ⟨o + 1, 0, none⟩) 3 3] 89)).alloc (.cells #[.string ⟨#[117, 112, 112, 101, 114]⟩, .string ⟨#[108, 97, 116, 105, 110]⟩, .slice (some ⟨o + 1 + 1 + 1, 0, none⟩) 3 3] 106) := ⟨_, rfl⟩
   have hbb : Below W9.heap.size W9 Wb := by rw [hWb]; exact ((Below.refl _ _).alloc (Nat.le_refl _) _).alloc (by simp) _
   have kp : Blk Wb (o + 4) #[.string ⟨#[108, 97, 116, 105, 110]⟩, .slice la 26 lc, .slice sa 26 sc, .string ⟨#[117, 112, 112, 101, 114]⟩, .slice (some ⟨o, 0, none⟩) 3 3, .slice (some ⟨o + 1, 0, none⟩) 3 3] 89 := by rw [hWb, ← hs9]; exact (Blk.new _ _ _).alloc _
   have kq : Blk Wb (o + 5) #[.string ⟨#[117, 112, 112, 101, 114]⟩, .string ⟨#[108, 97, 116, 105, 110]⟩, .slice (some ⟨o + 3, 0, none⟩) 3 3] 106 := by
    rw [hWb]
    have := Blk.new (W9.alloc (.cells #[.string ⟨#[108, 97, 116, 105, 110]⟩, .slice la 26 lc, .slice sa 26 sc, .string ⟨#[117, 112, 112, 101, 114]⟩, .slice (some ⟨o, 0, none⟩) 3 3, .slice (some ⟨o + 1, 0, none⟩) 3 3] 89)) #[.string ⟨#[117, 112, 112, 101, 114]⟩, .string ⟨#[108, 97, 116, 105, 110]⟩, .slice (some ⟨o + 3, 0, none⟩) 3 3] 106
    rwa [World.size_alloc, hs9] at this
   have k0b := HF.out.2.2.2.2.2.2.1.below hbb (by omega)
   have z0 : Wb.cell? ⟨b, 0, none⟩ = some (.slice none 0 0) := k0b.cell 0
   have z1 : Wb.cell? ⟨b, 1, none⟩ = some (.slice none 0 0) := k0b.cell 1
   have zf : ∀ j, Wb.frozen? ⟨b, j, none⟩ = false := fun j => k0b.frozen j
   have HB := Lib.hid (And.intro hbb (And.intro kp (And.intro kq (And.intro k0b hs9))))
   rw [hWb] at z0 z1 zf
   clear hbb kp kq k0b ku1 ku2 kup kru k1 k0 hb9 hbs
   go_wp2_with fail
   rw [← hWb]
   clear z0 z1 zf x0 x1 x2 y0 y1 y2 hWb
   have kF := (HB.out.2.2.2.1.set_ 0 (.slice (some ⟨o + 4, 0, none⟩) 2 2)).set_ 1 (.slice (some ⟨o + 4 + 1, 0, none⟩) 1 1)
   obtain ⟨WF, hWF⟩ : ∃ WF : World, WF = (Wb.setCell ⟨b, 0, none⟩ (.slice (some ⟨o + 4, 0, none⟩) 2 2)).setCell ⟨b, 1, none⟩ (.slice (some ⟨o + 4 + 1, 0, none⟩) 1 1) := ⟨_, rfl⟩
   rw [← hWF] at kF ⊢
   have hcF : Chg (fun k => k = b) Wb WF := by rw [hWF]; exact (Chg.setCell (S := fun k => k = b) Wb (p := ⟨b, 0, none⟩) (.inl rfl) _).trans (Chg.setCell (S := fun k => k = b) _ (p := ⟨b, 1, none⟩) (.inl rfl) _)
   clear hWF
   have m0 : WF.cell? ⟨b, 0, none⟩ = some (.slice (some ⟨o + 4, 0, none⟩) 2 2) := kF.cell 0
   have m1 : WF.cell? ⟨b, 1, none⟩ = some (.slice (some ⟨o + 4 + 1, 0, none⟩) 1 1) := kF.cell 1
   have hs9 := HB.out.2.2.2.2
   refine bodyPost_ret (v := .agg #[.slice (some ⟨o + 4, 0, none⟩) 2 2, .slice (some ⟨o + 4 + 1, 0, none⟩) 1 1]) (by simp [results, Tryz.results28, go_sem, m0, m1]) rfl ?_
   have up : ∀ {p : Nat} {cs : Array Value} {t : TypeId}, p ≠ b → p < W9.heap.size → Blk W9 p cs t → Blk WF p cs t := fun hne hlt h => (h.below HB.out.1 hlt).chg hcF hne
   have hbw := H0.out.1
   refine ⟨_, rfl, ex_final (base := b + 2) (HB.out.2.1.chg hcF (by omega)) (own_chg (own_below HF.out.2.2.2.2.1 HB.out.1) hcF (fun g hg e => ?_)) (own_chg (own_below HF.out.2.2.2.2.2.1 HB.out.1) hcF (fun g hg e => ?_))
    (up (by omega) (by omega) HF.out.1) (up (by omega) (by omega) HF.out.2.1) (up (by omega) (by omega) HF.out.2.2.2.1) (HB.out.2.2.1.chg hcF (by omega)), ?_⟩
   ·have := (HF.out.2.2.2.2.1.lt g hg).1; omega
   ·have := (HF.out.2.2.2.2.2.1.lt g hg).1; omega
   ·rw [H0.out.2.2.2]
    have h8 := HF.out.2.2.2.2.2.2.2
    have hz := hbw.size
    refine ⟨hcF.os.trans (HB.out.1.os.trans (h8.os.trans hbw.os)), hcF.tape.trans (HB.out.1.tape.trans (h8.tape.trans hbw.tape)), hcF.output.trans (HB.out.1.output.trans (h8.output.trans hbw.output)), Nat.le_trans hz (Nat.le_trans h8.size (Nat.le_trans HB.out.1.size hcF.size)), fun k hk => ?_⟩
    exact (hcF.block k (by have := HB.out.1.size; omega) (by omega)).trans ((HB.out.1.block k (by omega)).trans ((h8.block k (by omega)).trans (hbw.block k hk)))
end Go.Proofs.YthachfkcgdfdfaaGreatDoor
/- Walks: words.Valid. -/
namespace Go.Proofs.YthachfkcgdfdfaaGreatDoor
open Go.RowKit Classical

theorem partsOf_none {t : List UInt8} (h : 32 ∉ t) : partsOf t = [t] := by
 have := partsGo_word t [] [] h
 rw [List.append_nil, List.nil_append] at this
 unfold partsOf
 rw [this, partsGo]
theorem partsOf_some {p r : List UInt8} (h : 32 ∉ p) : partsOf (p ++ 32 :: r) = p :: partsOf r := by
 unfold partsOf
 rw [partsGo_word p _ [] h, List.nil_append, partsGo, if_pos rfl]
theorem indexByte_at (c : UInt8) : ∀ {p : List UInt8} (r : List UInt8), c ∉ p → Lib.indexByte (p ++ c :: r) c = p.length
 | [], r, _ => by simp [Lib.indexByte]
 | b :: p, r, h => by
  have hb : b ≠ c := fun e => h (by rw [e]; exact List.mem_cons_self ..)
  have ih := indexByte_at c (p := p) r (fun q => h (List.mem_cons_of_mem _ q))
  rw [List.cons_append]
  unfold Lib.indexByte
  rw [ih, if_neg (by simpa using hb), if_neg (by simp), List.length_cons]
  rfl
theorem split_parts : ∀ (n : Nat) (s : List UInt8), s.length ≤ n → Lib.splitK [32] 0 (s.count 32) s = partsOf s
 | n, s, hn => by
  by_cases h : (32 : UInt8) ∈ s
  ·obtain ⟨p, r, rfl, hp⟩ := List.eq_append_cons_of_mem h
   rw [partsOf_some hp, List.count_append, List.count_eq_zero_of_not_mem hp, Nat.zero_add, List.count_cons_self]
   unfold Lib.splitK
   rw [Lib.index_one, indexByte_at 32 r hp]
   rw [if_neg (by simp)]
   cases n with
   | zero => simp at hn
   | succ n =>
    have := split_parts n r (by simp at hn; omega)
    simp [this]
  ·rw [partsOf_none h, List.count_eq_zero_of_not_mem h]; rfl
/-- The pieces of a text. -/
def piecesB (s : ByteArray) : List ByteArray := Lib.splitB ⟨#[32]⟩ 0 (Lib.countB s ⟨#[32]⟩) s
theorem piecesB_bl (s : ByteArray) : (piecesB s).map bl = partsOf (bl s) := by
 unfold piecesB
 have h := Lib.splitB_data ⟨#[32]⟩ 0 (Lib.countB s ⟨#[32]⟩) s
 rw [show (fun t : ByteArray => t.data.toList) = bl from rfl] at h
 rw [h, show Lib.countB s ⟨#[32]⟩ = (bl s).count 32 from Lib.count_one 32 _]
 exact split_parts _ (bl s) (Nat.le_refl _)
theorem piecesB_len (s : ByteArray) : (piecesB s).length = Lib.countB s ⟨#[32]⟩ + 1 := Lib.splitB_all _ (Nat.le_refl _) 0 _ s rfl
theorem piecesB_le (s : ByteArray) : (piecesB s).length ≤ s.size + 1 := by
 rw [piecesB_len]; have := Lib.countB_le ⟨#[32]⟩ (Nat.le_refl _) s.size s (Nat.le_refl _); omega
theorem piecesB_size (s : ByteArray) : ∀ t ∈ piecesB s, t.size ≤ s.size := by
 intro t ht
 have h1 : bl t ∈ partsOf (bl s) := by rw [← piecesB_bl]; exact List.mem_map_of_mem ht
 have h2 := join_parts (bl s)
 have h3 : ∀ (l : List (List UInt8)) p, p ∈ l → p.length ≤ (joinB l).length := by
  intro l
  induction l with
  | nil => intro p hp; exact absurd hp (by simp)
  | cons q l ih =>
   intro p hp
   by_cases hl : l = []
   ·subst hl; obtain rfl := List.mem_singleton.1 hp; exact Nat.le_refl _
   ·rw [joinB_cons _ hl, List.length_append, List.length_cons]
    rcases List.mem_cons.1 hp with rfl | hp
    ·omega
    ·have := ih p hp; omega
 have := h3 _ _ h1
 rw [h2, bl_length, bl_length] at this
 exact this

set_option maxRecDepth 100000 in
set_option maxHeartbeats 1000000 in
theorem StrSplit_any (s : ByteArray) (hs : s.size ≤ 1000000000) (w : World) :
  Calls Tryz.prog 50 #[.string s, .string ⟨#[32]⟩] w fun e w' => ∃ a, e = .returned (.slice a (piecesB s).length (piecesB s).length) ∧ RowAt w' w'.heap.size a (strs (piecesB s)) ∧ Below w.heap.size w w' := by
 have c := Any.strings_genSplit_core Tryz.lays221 (by kernel_rfl) s ⟨#[32]⟩ 0 (-1) (piecesB s).length w (by omega) (Nat.le_refl _) (Nat.zero_le _)
  (fun x c hx => (Tryz.strings_Index_one x 32 _).mono fun e w' h => ⟨by rw [h.1]; show _ = Ending.returned (Value.int .i64 (Lib.index x.data.toList [32])); rw [Lib.index_one], h.2⟩)
  ((Tryz.strings_Count_one s 32 w).mono fun e w' h => ⟨by rw [h.1]; show _ = Ending.returned (Value.int .i64 ((Lib.count s.data.toList [32] : Nat) : Int)); rw [Lib.count_one]; rfl, h.2⟩)
  (by decide) (by decide) (by
   have := piecesB_le s
   rw [if_pos (by decide), piecesB_len]
   rw [piecesB_len] at this
   omega)
 have e1 : Lib.splitB ⟨#[32]⟩ 0 ((piecesB s).length - 1) s = piecesB s := by rw [piecesB_len, Nat.add_sub_cancel]; rfl
 rw [e1] at c
 rw [Lib.cellsOf_full] at c
 have C := Lib.hid c
 clear c e1
 go_enter Tryz.func50, Tryz.ntmps50
 go_wp2_with (refine C.out.mono ?_; rintro e w1 ⟨rfl, rfl⟩)
 go_ret
 refine ⟨_, rfl, fun hn => ⟨w.heap.size, 0, rfl, by simp, fun i x hx => ?_⟩, (Below.refl _ _).alloc (Nat.le_refl _) _⟩
 rw [Nat.zero_add, World.cell?_alloc_new]
 simpa [strs] using hx

-- slices.IndexFunc and ContainsFunc at texts, the function bound to two boxes; it may lay new blocks.
set_option maxRecDepth 100000 in
set_option maxHeartbeats 1000000 in
theorem idxFunc_any (p : ByteArray → Prop) (ts : List ByteArray) (ta : Option Addr) (tc : Nat) (fn : FuncId) (lb : Array Value) (w : World) (hl : ts.length ≤ maxLen) (h : RowAt w w.heap.size ta (strs ts)) (eg : ∀ args w, (callFunc fn args).run Tryz.prog w = .ok (.enter fn args) w)
  (hT : ∀ (w' : World) t, Below w.heap.size w w' → t ∈ ts → Calls Tryz.prog fn (#[.string t] ++ lb) w' fun e w'' => e = .returned (.bool (decide (p t))) ∧ Below w'.heap.size w' w'') :
  Calls Tryz.prog 75 #[.slice ta ts.length tc, .func (.func fn) #[] lb] w fun e w' => ∃ r : Int, e = .returned (.int .i64 r) ∧ (0 ≤ r ↔ ∃ t ∈ ts, p t) ∧ Below w.heap.size w w' := by
 unfold maxLen at hl
 have Hcr := Lib.hid (fun (wr : World) (hbr : Below w.heap.size w wr) (k : Nat) (hk : k < ts.length) => (show ∃ g o, ta = some ⟨g, o, none⟩ ∧ wr.cell? ⟨g, o + k, none⟩ = some (.string ts[k]) from by
  obtain ⟨g, o, e, hg, hc⟩ := h.strs (by omega)
  exact ⟨g, o, e, (hbr.cell (p := ⟨g, o + k, none⟩) hg).trans (hc k hk)⟩))
 have HT := Lib.hid hT
 clear h hT
 go_enter Tryz.func75, Tryz.ntmps75
 go_wp2_with fail
 go_loopw [5, 8] (fun _ i wr => ∃ k : Nat, k ≤ ts.length ∧ i = .int .i64 k ∧ (∀ j (hj : j < ts.length), j < k → ¬ p ts[j]) ∧ Below w.heap.size w wr) (fun _ i _ => ts.length - (intOf i).toNat)
 case atStart => exact ⟨0, Nat.zero_le _, rfl, (fun j _ hj => absurd hj (Nat.not_lt_zero _)), Below.refl _ _⟩
 case round =>
  obtain ⟨k, hk, rfl, hto, hbr⟩ := hrel
  have Hto := Lib.hid hto
  clear hto
  by_cases hkl : k < ts.length
  ·obtain ⟨g, o, rfl, c0⟩ := Hcr.out wr hbr k hkl
   have HC := Lib.hid (HT.out wr ts[k] hbr (List.getElem_mem hkl))
   by_cases hp : p ts[k]
   ·rw [decide_eq_true hp] at HC
    have Hend := Lib.hid (show (0 : Int) ≤ k ↔ ∃ t ∈ ts, p t from ⟨fun _ => ⟨_, List.getElem_mem hkl, hp⟩, fun _ => by omega⟩)
    clear hp
    go_wp2_with (refine HC.out.mono ?_; rintro e w1 ⟨rfl, hb1⟩)
    go_ret
    exact ⟨_, rfl, Hend.out, hbr.trans (hb1.mono hbr.size)⟩
   ·rw [decide_eq_false hp] at HC
    have Hnew := Lib.hid (show ∀ j (hj : j < ts.length), j < k + 1 → ¬ p ts[j] from fun j hj h1 => by
     by_cases e : j = k
     ·subst e; exact hp
     ·exact Hto.out j hj (by omega))
    clear hp
    go_wp2_with (refine HC.out.mono ?_; rintro e w1 ⟨rfl, hb1⟩)
    exact ⟨⟨k + 1, by omega, by go_num, Hnew.out, hbr.trans (hb1.mono hbr.size)⟩, by simp [intOf]; omega⟩
  ·obtain rfl : k = ts.length := by omega
   have Hend := Lib.hid (show (0 : Int) ≤ -1 ↔ ∃ t ∈ ts, p t from ⟨fun h => by omega, fun ⟨t, ht, hp⟩ => by
    obtain ⟨j, hj, rfl⟩ := List.mem_iff_getElem.1 ht
    exact absurd hp (Hto.out j hj hj)⟩)
   go_wp2_with fail
   go_ret
   exact ⟨_, rfl, Hend.out, hbr⟩
set_option maxRecDepth 100000 in
set_option maxHeartbeats 1000000 in
theorem conFunc_any (p : ByteArray → Prop) (ts : List ByteArray) (ta : Option Addr) (tc : Nat) (fn : FuncId) (lb : Array Value) (w : World) (hl : ts.length ≤ maxLen) (h : RowAt w w.heap.size ta (strs ts)) (eg : ∀ args w, (callFunc fn args).run Tryz.prog w = .ok (.enter fn args) w)
  (hT : ∀ (w' : World) t, Below w.heap.size w w' → t ∈ ts → Calls Tryz.prog fn (#[.string t] ++ lb) w' fun e w'' => e = .returned (.bool (decide (p t))) ∧ Below w'.heap.size w' w'') :
  Calls Tryz.prog 36 #[.slice ta ts.length tc, .func (.func fn) #[] lb] w fun e w' => e = .returned (.bool (decide (∃ t ∈ ts, p t))) ∧ Below w.heap.size w w' := by
 have HC := Lib.hid (idxFunc_any p ts ta tc fn lb w hl h eg hT)
 clear h hT
 go_enter Tryz.func36, Tryz.ntmps36
 go_wp2_with (refine HC.out.mono ?_; rintro e w1 ⟨r, rfl, hr, hb1⟩; have Hr := Lib.hid hr; clear hr)
 go_ret
 exact ⟨ret_bool (decide_eq_decide.2 Hr.out), hb1⟩

/-- A part that is no word of an alphabet. -/
def BadW (A : Alph) (t : ByteArray) : Prop := (readL A.bls (bl t)).err ≠ 0
set_option maxRecDepth 100000 in
set_option maxHeartbeats 1000000 in
theorem vtest_any (b : Brid) (j : Nat) (B : Alph) (Bb Bt : Nat) (a : Option Addr) (c : Nat) (s : ByteArray) (hs : s.size ≤ maxLen) (w : World) (hB : b.scripts[j]? = some B) (hv : Valid10 B) (hb0 : w.cell? ⟨Bb, 0, none⟩ = some (.slice a b.scripts.length c)) (ht : w.cell? ⟨Bt, 1, none⟩ = some (.int .i64 (j : Int))) (hA : AlphsAt w w.heap.size a b.scripts) :
  Calls Tryz.prog 51 #[.string s, .pointer (some ⟨Bb, 0, none⟩), .pointer (some ⟨Bt, 0, none⟩)] w fun e w' => e = .returned (.bool (decide (BadW B s))) ∧ Below w.heap.size w w' := by
 obtain ⟨g, o, la, lc, sa, sc, rfl, hg, p0, p1, p2, hAt⟩ := hA.get hB
 have hjl : j < b.scripts.length := (List.getElem?_eq_some_iff.1 hB).1
 have hq := Read_any B _ s hs w hAt
 have he : readA B s = readL B.bls (bl s) := by unfold readA; rw [if_pos hv]
 rw [he] at hq
 have HQ := Lib.hid hq
 have hd : ((readL B.bls (bl s)).err != 0) = decide (BadW B s) := by
  by_cases h : (readL B.bls (bl s)).err = 0
  ·rw [decide_eq_false (show ¬ BadW B s from fun q => q h), h]; rfl
  ·rw [decide_eq_true (show BadW B s from h)]; simpa using h
 have Hd := Lib.hid hd
 clear hq he hv hB hA hAt hd
 go_enter Tryz.func51, Tryz.ntmps51
 go_wp2_with (go_at_call 52; refine HQ.out.mono ?_; rintro e w1 ⟨v, rfl, hrow, hb1⟩)
 go_ret
 exact ⟨ret_bool Hd.out, hb1⟩

set_option maxRecDepth 100000 in
set_option maxHeartbeats 2000000 in
theorem BValid_any (b : Brid) (v : Value) (w : World) (h : BridAt w w.heap.size v b) :
  Calls Tryz.prog 49 #[v] w fun e w' => e = .returned (.bool (decide (ValidB b))) ∧ Below w.heap.size w w' := by
 have hB := h
 obtain ⟨a, c, a', c', rfl, hn, hr, hA, hR⟩ := h
 obtain ⟨W0, hW0⟩ : ∃ W0 : World, W0 = w.alloc (.cells #[.slice a b.scripts.length c, .slice a' b.rules.length c'] 25) := ⟨_, rfl⟩
 have hw0 : Below w.heap.size w W0 := by rw [hW0]; exact (Below.refl _ _).alloc (Nat.le_refl _) _
 have hbox : Box W0 w.heap.size [.slice a b.scripts.length c, .slice a' b.rules.length c'] := by rw [hW0]; exact Box.new _ _ _
 have HO := Lib.hid (openB_any b _ W0 ((hB.below hw0 (Nat.le_refl _)).more hw0.size))
 obtain ⟨x0, x1⟩ := hbox.c2
 clear hB hA hR hbox
 go_enter Tryz.func49, Tryz.ntmps49
 go_upto_region 1 with (fail)
 rw [← hW0]
 clear hW0
 go_wp2_with (refine HO.out.mono ?_; rintro e w1 ⟨⟨hno, rfl⟩ | ⟨hok, mb, es, rfl, -, -, -⟩, hb1⟩)
 ·go_ret
  exact ⟨ret_no hno, hw0.trans (hb1.mono hw0.size)⟩
 ·go_ret
  exact ⟨ret_yes hok, hw0.trans (hb1.mono hw0.size)⟩

/-- A name as a value. -/
def nameV (lang : ByteArray) (i : Int) (text : ByteArray) : Value := .agg #[.string lang, .int .i64 i, .string text]
set_option maxRecDepth 100000 in
set_option maxHeartbeats 2000000 in
theorem WValid_any (b : Brid) (v : Value) (lang text : ByteArray) (i : Int) (hlang : lang.size ≤ maxLen) (htext : text.size ≤ 1000000000) (w : World) (h : BridAt w w.heap.size v b) :
  Calls Tryz.prog 16 #[v, nameV lang i text] w fun e w' => e = .returned (.bool (decide (NameOk b lang i (bl text)))) ∧ Below w.heap.size w w' := by
 have hB := h
 obtain ⟨a, c, a', c', rfl, hn, hr, hA, hR⟩ := h
 unfold nameV
 obtain ⟨W0, hW0⟩ : ∃ W0 : World, W0 = (w.alloc (.cells #[.slice a b.scripts.length c, .slice a' b.rules.length c'] 25)).alloc (.cells #[.string lang, .int .i64 i, .string text] 27) := ⟨_, rfl⟩
 have hw0 : Below w.heap.size w W0 := by rw [hW0]; exact ((Below.refl _ _).alloc (Nat.le_refl _) _).alloc (by simp) _
 have hs0 : W0.heap.size = w.heap.size + 2 := by rw [hW0]; simp
 have hkb : Blk W0 w.heap.size #[.slice a b.scripts.length c, .slice a' b.rules.length c'] 25 := by rw [hW0]; exact (Blk.new _ _ _).alloc _
 have hkt : Blk W0 (w.heap.size + 1) #[.string lang, .int .i64 i, .string text] 27 := by
  rw [hW0]; have := Blk.new (w.alloc (.cells #[.slice a b.scripts.length c, .slice a' b.rules.length c'] 25)) #[.string lang, .int .i64 i, .string text] 27; simpa using this
 have HA := Lib.hid hA
 have HB := Lib.hid hB
 have HK := Lib.hid (fun (wr : World) (hbr : Below W0.heap.size W0 wr) => have hbw := hw0.trans (hbr.mono (by omega)); (show wr.cell? ⟨w.heap.size, 0, none⟩ = some (.slice a b.scripts.length c) ∧ wr.cell? ⟨w.heap.size, 1, none⟩ = some (.slice a' b.rules.length c') ∧ wr.cell? ⟨w.heap.size + 1, 0, none⟩ = some (.string lang) ∧ wr.cell? ⟨w.heap.size + 1, 1, none⟩ = some (.int .i64 i) ∧ wr.cell? ⟨w.heap.size + 1, 2, none⟩ = some (.string text) ∧ Below w.heap.size w wr from
  ⟨(hkb.below hbr (by omega)).cell 0, (hkb.below hbr (by omega)).cell 1, (hkt.below hbr (by omega)).cell 0, (hkt.below hbr (by omega)).cell 1, (hkt.below hbr (by omega)).cell 2, hbw⟩))
 clear hB hA hR hkb hkt
 go_enter Tryz.func16, Tryz.ntmps16
 go_upto_region 1 with (fail)
 rw [← hW0]
 clear hW0
 obtain ⟨x0, x1, x2, x3, x4, -⟩ := HK.out W0 (Below.refl _ _)
 by_cases h1 : nameB (bl lang) = true
 case neg =>
  have d1 : nameB (bl lang) = false := by simpa using h1
  have Hno := Lib.hid (show ¬ NameOk b lang i (bl text) from fun h => h1 h.lang)
  clear h1
  go_wp2_with (refine (isNameW_any lang hlang _).mono ?_; rintro e w1 ⟨rfl, hb1⟩; rw [d1])
  go_ret
  exact ⟨ret_no Hno.out, hw0.trans (hb1.mono hw0.size)⟩
 by_cases h2 : 0 ≤ i
 case neg =>
  have Hno := Lib.hid (show ¬ NameOk b lang i (bl text) from fun h => h2 h.script.1)
  go_wp2_with (refine (isNameW_any lang hlang _).mono ?_; rintro e w1 ⟨rfl, hb1⟩; rw [h1]; obtain ⟨y0, y1, y2, y3, y4, hbw1⟩ := HK.out w1 hb1)
  go_ret
  exact ⟨ret_no Hno.out, hbw1⟩
 by_cases h3 : i < b.scripts.length
 case neg =>
  have Hno := Lib.hid (show ¬ NameOk b lang i (bl text) from fun h => h3 h.script.2)
  go_wp2_with (refine (isNameW_any lang hlang _).mono ?_; rintro e w1 ⟨rfl, hb1⟩; rw [h1]; obtain ⟨y0, y1, y2, y3, y4, hbw1⟩ := HK.out w1 hb1)
  go_ret
  exact ⟨ret_no Hno.out, hbw1⟩
 by_cases h4 : ValidB b
 case neg =>
  have Hno := Lib.hid (show ¬ NameOk b lang i (bl text) from fun h => h4 h.brid)
  have d4 : decide (ValidB b) = false := decide_eq_false h4
  clear h4
  have Hd := Lib.hid d4
  go_wp2_with (first | (go_at_call 48; refine (isNameW_any lang hlang _).mono ?_; rintro e w1 ⟨rfl, hb1⟩; rw [h1]; obtain ⟨y0, y1, y2, y3, y4, hbw1⟩ := HK.out w1 hb1) | (go_at_call 49; refine (BValid_any b _ _ ((HB.out.below hbw1 (Nat.le_refl _)).more hbw1.size)).mono ?_; rintro e w2 ⟨rfl, hb2⟩; rw [Hd.out]))
  go_ret
  exact ⟨ret_no Hno.out, hbw1.trans (hb2.mono hbw1.size)⟩
 have d4 : decide (ValidB b) = true := decide_eq_true h4
 have Hd := Lib.hid d4
 clear d4
 obtain ⟨A, hA⟩ : ∃ A, b.scripts[i.toNat]? = some A := ⟨_, List.getElem?_eq_getElem (by omega)⟩
 have hv : Valid10 A := h4.scr.alph A (List.mem_of_getElem? hA)
 go_upto_region 3 with (first | (go_at_call 48; refine (isNameW_any lang hlang _).mono ?_; rintro e w1 ⟨rfl, hb1⟩; rw [h1]; obtain ⟨y0, y1, y2, y3, y4, hbw1⟩ := HK.out w1 hb1) | (go_at_call 49; refine (BValid_any b _ _ ((HB.out.below hbw1 (Nat.le_refl _)).more hbw1.size)).mono ?_; rintro e w2 ⟨rfl, hb2⟩; rw [Hd.out]))
 have hbr2 := hb1.trans (hb2.mono hb1.size)
 clear x0 x1 x2 x3 x4 y0 y1 y2 y3 y4
 obtain ⟨x0, x1, x2, x3, x4, hbw2⟩ := HK.out w2 hbr2
 go_upto_region 4 with (refine (StrSplit_any text htext _).mono ?_; rintro e w3 ⟨pa, rfl, hrow, hb3⟩)
 have hbr3 := hbr2.trans (hb3.mono hbr2.size)
 have hpb := piecesB_bl text
 have hps := piecesB_size text
 have hpl := piecesB_le text
 obtain ⟨ps, hps0⟩ : ∃ ps, piecesB text = ps := ⟨_, rfl⟩
 rw [hps0] at hrow hpb hps hpl
 rw [hps0]
 clear hps0
 clear x0 x1 x2 x3 x4
 have hlen : (partsOf (bl text)).length = ps.length := by rw [← hpb, List.length_map]
 by_cases h6 : ps.length ≤ 6
 case neg =>
  have Hno := Lib.hid (show ¬ NameOk b lang i (bl text) from fun h => h6 (by have := h.few; omega))
  go_wp2_with fail
  go_ret
  exact ⟨ret_no Hno.out, (HK.out w3 hbr3).2.2.2.2.2⟩
 have HC := Lib.hid (conFunc_any (BadW A) ps pa ps.length 51 #[.pointer (some ⟨w.heap.size, 0, none⟩), .pointer (some ⟨w.heap.size + 1, 0, none⟩)] w3 (by unfold maxLen; omega) hrow (by intro args w; kernel_rfl) (fun wr t hbr ht => by
  have hbrr := hbr3.trans (hbr.mono hbr3.size)
  obtain ⟨y0, -, -, y3, -, hbw⟩ := HK.out wr hbrr
  have := hps t ht
  exact vtest_any b i.toNat A _ _ a c t (by unfold maxLen; omega) wr hA hv y0 (by rw [y3]; congr 2; omega) ((HA.out.below hbw (Nat.le_refl _)).more hbw.size)))
 have hd : (!decide (∃ t ∈ ps, BadW A t)) = decide (NameOk b lang i (bl text)) := by
  rw [← decide_not, decide_eq_decide]
  constructor
  ·intro hn
   refine ⟨h4, h1, ⟨h2, h3⟩, by omega, fun A' hA' p hp => ?_⟩
   obtain rfl := Option.some.inj (hA.symm.trans hA')
   rw [← hpb] at hp
   obtain ⟨t, ht, rfl⟩ := List.mem_map.1 hp
   exact Classical.not_not.1 fun he => hn ⟨t, ht, he⟩
  ·rintro hn ⟨t, ht, he⟩
   exact he (hn.word A hA (bl t) (by rw [← hpb]; exact List.mem_map_of_mem ht))
 have Hd2 := Lib.hid hd
 clear hd hA hv hpb hps
 go_wp2_with (refine HC.out.mono ?_; rintro e w4 ⟨rfl, hb4⟩)
 go_ret
 exact ⟨ret_bool Hd2.out, (HK.out w4 (hbr3.trans (hb4.mono hbr3.size))).2.2.2.2.2⟩
end Go.Proofs.YthachfkcgdfdfaaGreatDoor
