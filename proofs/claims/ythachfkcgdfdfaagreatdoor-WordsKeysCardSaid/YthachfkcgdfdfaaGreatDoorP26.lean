/- BX · BY -/
import Derived.Test.YthachfkcgdfdfaaGreatDoorP25
import Derived.Test.YthachfkcgdfdfaaGreatDoorSortX
/- Walks: what words.Spell calls: the closure that tests words, slices.Compare at texts. -/
namespace Go.Proofs.YthachfkcgdfdfaaGreatDoor
open Go.RowKit Classical

/-- A text that is no word of Spell. -/
def NoWord (t : ByteArray) : Prop := ¬ Dense t 120
set_option maxRecDepth 100000 in
theorem sp1_any (s : ByteArray) (w : World) :
  Calls Tryz.prog 34 #[.string s] w fun e w' => e = .returned (.bool (decide (NoWord s))) ∧ Below w.heap.size w w' := by
 have HD := Lib.hid (dense_any s 120 w)
 have hd : (!decide (Dense s 120)) = decide (NoWord s) := by
  by_cases h : Dense s 120
  ·rw [decide_eq_true h, decide_eq_false (show ¬ NoWord s from fun q => q h)]; rfl
  ·rw [decide_eq_false h, decide_eq_true (show NoWord s from h)]; rfl
 have Hd := Lib.hid hd
 clear hd
 go_enter Tryz.func34, Tryz.ntmps34
 go_wp2_with (refine HD.out.mono ?_; rintro e w1 ⟨rfl, hb1⟩)
 go_ret
 exact ⟨ret_bool Hd.out, hb1⟩

set_option maxRecDepth 100000 in
set_option maxHeartbeats 1000000 in
theorem cmpL_any (x y : List ByteArray) (xa ya : Option Addr) (xc yc : Nat) (hx : x.length ≤ maxLen) (hy : y.length ≤ maxLen) (B : Nat) (w : World) (hxr : RowAt w B xa (strs x)) (hyr : RowAt w B ya (strs y)) :
  Calls Tryz.prog 44 #[.slice xa x.length xc, .slice ya y.length yc] w fun e w' => e = .returned (.int .i64 (cmpL x y)) ∧ w' = w := by
 unfold maxLen at hx hy
 have Hx := Lib.hid (fun (k : Nat) (hk : k < x.length) => hxr.strs (by omega))
 have Hy := Lib.hid (fun (k : Nat) (hk : k < y.length) => hyr.strs (by omega))
 clear hxr hyr
 go_enter Tryz.func44, Tryz.ntmps44
 go_wp2_with fail
 go_loop [11] (fun i => ∃ k : Nat, k ≤ x.length ∧ k ≤ y.length ∧ i = .int .i64 k ∧ cmpL x y = cmpL (x.drop k) (y.drop k)) (fun i => x.length - (intOf i).toNat)
 case atStart => exact ⟨0, Nat.zero_le _, Nat.zero_le _, rfl, rfl⟩
 case round =>
  obtain ⟨k, hkx, hky, rfl, hc⟩ := hrel
  have Hc := Lib.hid hc
  clear hc
  by_cases h1 : k < x.length
  ·obtain ⟨g, o, rfl, -, cc⟩ := Hx.out k h1
   have c0 := cc k h1
   clear cc
   by_cases h2 : k < y.length
   ·obtain ⟨g', o', rfl, -, dd⟩ := Hy.out k h2
    have d0 := dd k h2
    clear dd
    have hs := Lib.hid (show cmpL x y = if cmpS x[k] y[k] = 0 then cmpL (x.drop (k + 1)) (y.drop (k + 1)) else cmpS x[k] y[k] by rw [Hc.out, List.drop_eq_getElem_cons h1, List.drop_eq_getElem_cons h2]; rfl)
    obtain ⟨s, hs1⟩ : ∃ s, x[k] = s := ⟨_, rfl⟩
    obtain ⟨t, ht1⟩ : ∃ t, y[k] = t := ⟨_, rfl⟩
    rw [hs1] at c0 hs
    rw [ht1] at d0 hs
    clear hs1 ht1
    by_cases he : cmpS s t = 0
    ·have He := Lib.hid (show cmpL x y = cmpL (x.drop (k + 1)) (y.drop (k + 1)) by rw [hs.out, if_pos he])
     have Hz := Lib.hid he
     clear he
     go_wp2_with (go_at_call 80; refine (cmpS_any s t _).mono ?_; rintro e w1 ⟨rfl, hw⟩; subst w1; rw [Hz.out])
     exact ⟨⟨k + 1, by omega, by omega, by go_num, He.out⟩, by simp [intOf]; omega⟩
    ·have d1 : (cmpS s t != 0) = true := by simpa using he
     have He := Lib.hid (show cmpL x y = cmpS s t by rw [hs.out, if_neg he])
     clear he
     go_wp2_with (go_at_call 80; refine (cmpS_any s t _).mono ?_; rintro e w1 ⟨rfl, hw⟩; subst w1)
     go_ret
     exact ⟨ret_int He.out.symm, rfl⟩
   ·have He := Lib.hid (show cmpL x y = 1 by rw [Hc.out, List.drop_eq_getElem_cons h1, List.drop_of_length_le (show y.length ≤ k by omega)]; rfl)
    go_wp2_with fail
    go_ret
    exact ⟨ret_int He.out.symm, rfl⟩
  ·have hkx' : k = x.length := by omega
   by_cases h2 : x.length < y.length
   ·have He := Lib.hid (show cmpL x y = -1 by rw [Hc.out, List.drop_of_length_le (show x.length ≤ k by omega), List.drop_eq_getElem_cons (show k < y.length by omega)]; rfl)
    go_wp2_with fail
    go_ret
    exact ⟨ret_int He.out.symm, rfl⟩
   ·have He := Lib.hid (show cmpL x y = 0 by rw [Hc.out, List.drop_of_length_le (show x.length ≤ k by omega), List.drop_of_length_le (show y.length ≤ k by omega)]; rfl)
    go_wp2_with fail
    go_ret
    exact ⟨ret_int He.out.symm, rfl⟩

def cmpN (x y : Int) : Int := if x < y then -1 else if y < x then 1 else 0
theorem isNaNi_any (x : Int) (w : World) : Calls Tryz.prog 79 #[.int .i64 x] w fun e w' => e = .returned (.bool false) ∧ w' = w := by
 go_enter Tryz.func79, Tryz.ntmps79
 go_wp2
 go_ret
 exact ⟨by simp, rfl⟩
set_option maxRecDepth 100000 in
set_option maxHeartbeats 1000000 in
theorem cmpN_any (a b : Int) (w : World) : Calls Tryz.prog 43 #[.int .i64 a, .int .i64 b] w fun e w' => e = .returned (.int .i64 (cmpN a b)) ∧ w' = w := by
 go_enter Tryz.func43, Tryz.ntmps43
 have hn := fun s w => isNaNi_any s w
 go_wp2_with fail
 refine (hn _ _).mono ?_
 rintro e w' ⟨rfl, hw⟩
 subst hw
 go_wp2_with fail
 refine (hn _ _).mono ?_
 rintro e w' ⟨rfl, hw⟩
 subst hw
 go_wp2_with fail
 all_goals go_ret
 all_goals refine ⟨?_, rfl⟩
 all_goals unfold cmpN
 all_goals first | (rw [if_pos (by assumption)]; rfl) | (rw [if_neg (by omega), if_pos (by omega)]; rfl) | (rw [if_neg (by omega), if_neg (by omega)]; rfl)
/-- A spelling in memory: where its words lie, its words, its cost. -/
structure Spl where
 at_ : Option Addr
 cap : Nat
 ws : List ByteArray
 cost : Int
def Spl.cells (x : Spl) : List Value := [.slice x.at_ x.ws.length x.cap, .int .i64 x.cost]
def Spl.v (x : Spl) : Value := .agg #[.slice x.at_ x.ws.length x.cap, .int .i64 x.cost]
def Spl.ok (w : World) (B : Nat) (x : Spl) : Prop := x.ws.length ≤ maxLen ∧ RowAt w B x.at_ (strs x.ws)
def cmpX (x y : List ByteArray × Int) : Int := orI [cmpN x.2 y.2, cmpL x.1 y.1]
theorem cmpX_lt {x y : List ByteArray × Int} : cmpX x y < 0 ↔ ltX x y := by
 have h1 : ∀ a b : Int, orI [a, b] < 0 ↔ a < 0 ∨ (a = 0 ∧ b < 0) := by
  intro a b
  simp only [orI]
  split
  ·split <;> omega
  ·omega
 have h2 : cmpN x.2 y.2 < 0 ↔ x.2 < y.2 := by
  unfold cmpN
  split
  ·omega
  ·split <;> omega
 have h3 : cmpN x.2 y.2 = 0 ↔ x.2 = y.2 := by
  unfold cmpN
  split
  ·omega
  ·split <;> omega
 unfold cmpX ltX
 rw [h1, h2, h3]
set_option maxRecDepth 100000 in
set_option maxHeartbeats 2000000 in
theorem sp3_any (x y : Spl) (B : Nat) (w : World) (hB : B ≤ w.heap.size) (hx : x.ok w B) (hy : y.ok w B) :
  Calls Tryz.prog 41 #[x.v, y.v] w fun e w' => e = .returned (.int .i64 (cmpX (x.ws, x.cost) (y.ws, y.cost))) ∧ ∃ o1 o2 o3 n, w' = ((((w.alloc o1).alloc o2).alloc o3).drewN n) := by
 obtain ⟨xa, xc, xs, xk⟩ := x
 obtain ⟨ya, yc, ys, yk⟩ := y
 obtain ⟨hxl, hxr⟩ := hx
 obtain ⟨hyl, hyr⟩ := hy
 dsimp only at hxl hyl hxr hyr
 unfold Spl.v
 dsimp only
 obtain ⟨W1, hW1⟩ : ∃ W1 : World, W1 = (w.alloc (.cells #[.slice xa xs.length xc, .int .i64 xk] 52)).alloc (.cells #[.slice ya ys.length yc, .int .i64 yk] 52) := ⟨_, rfl⟩
 have ha : Blk W1 w.heap.size #[.slice xa xs.length xc, .int .i64 xk] 52 := by rw [hW1]; exact (Blk.new _ _ _).alloc _
 have hb : Blk W1 (w.heap.size + 1) #[.slice ya ys.length yc, .int .i64 yk] 52 := by
  rw [hW1]; have := Blk.new (w.alloc (.cells #[.slice xa xs.length xc, .int .i64 xk] 52)) #[.slice ya ys.length yc, .int .i64 yk] 52; simpa using this
 have hbw : Below w.heap.size w W1 := by rw [hW1]; exact ((Below.refl _ _).alloc (Nat.le_refl _) _).alloc (by simp) _
 have a0 := ha.cell 0
 have a1 := ha.cell 1
 have b0 := hb.cell 0
 have b1 := hb.cell 1
 simp only [List.getElem?_toArray, List.getElem?_cons_zero, List.getElem?_cons_succ] at a0 a1 b0 b1
 have HX := Lib.hid (fun (wr : World) (h : Below w.heap.size w wr) => (cmpL_any xs ys xa ya xc yc hxl hyl B wr (hxr.below h hB) (hyr.below h hB)))
 have HW1 := Lib.hid hW1
 have Hbw := Lib.hid hbw
 clear hW1 ha hb hbw hxr hyr
 go_enter Tryz.func41, Tryz.ntmps41
 go_upto_region 1 with (fail)
 rw [← HW1.out]
 have hn0 := World.new_ne W1 _ a0
 have hn1 := World.new_ne W1 _ a1
 have hn2 := World.new_ne W1 _ b0
 have hn3 := World.new_ne W1 _ b1
 have HO := Lib.hid (show Calls Tryz.prog 42 #[.slice (some ⟨W1.heap.size, 0, none⟩) 2 2] (W1.alloc (.cells #[.int .i64 (cmpN xk yk), .int .i64 (cmpL xs ys)] 3)).drew fun e w' => e = .returned (.int .i64 (cmpX (xs, xk) (ys, yk))) ∧ w' = (W1.alloc (.cells #[.int .i64 (cmpN xk yk), .int .i64 (cmpL xs ys)] 3)).drew from
  Or_any [cmpN xk yk, cmpL xs ys] (some ⟨W1.heap.size, 0, none⟩) 2 (W1.heap.size + 1) (by simp [maxLen]) _ (fun _ => ⟨_, 0, rfl, by omega, fun i x hx => by rw [Nat.zero_add]; exact Box.new W1 (nums [cmpN xk yk, cmpL xs ys]) 3 i x hx⟩))
 go_cut [4] (fun p wx => p = .int .i64 (cmpX (xs, xk) (ys, yk)) ∧ ∃ o3 n, wx = (W1.alloc o3).drewN n)
 case first =>
  go_region_held3 (fun w' => w'.cell? ⟨w.heap.size, 0, none⟩ = some (.slice xa xs.length xc) ∧ w'.cell? ⟨w.heap.size, 1, none⟩ = some (.int .i64 xk) ∧ w'.cell? ⟨w.heap.size + 1, 0, none⟩ = some (.slice ya ys.length yc) ∧ w'.cell? ⟨w.heap.size + 1, 1, none⟩ = some (.int .i64 yk)) (go_keep)
   (first | (go_at_call 43; refine (cmpN_any _ _ _).mono ?_; rintro e w' ⟨rfl, rfl⟩) | (go_at_call 44; refine (HX.out _ (by first | exact Hbw.out | exact Hbw.out.drew)).mono ?_; rintro e w' ⟨rfl, rfl⟩) | (go_at_call 42; refine HO.out.mono ?_; rintro e w' ⟨rfl, rfl⟩) | fail)
  all_goals (go_wp2_with fail; go_meet; exact ⟨rfl, _, 1, rfl⟩)
 case rest =>
  obtain ⟨rfl, o3, n, rfl⟩ := hcut
  go_wp2_with fail
  go_ret
  exact ⟨rfl, _, _, o3, n, by rw [HW1.out]⟩
end Go.Proofs.YthachfkcgdfdfaaGreatDoor
/- The library's sort of spellings. -/
namespace Go.Proofs.YthachfkcgdfdfaaGreatDoor
open Go.RowKit Go.Shelf Go.Lib Go.Sort Classical

section
variable {α : Type}
theorem flatMap_at {enc : α → List Value} {k : Nat} (hk : ∀ x, (enc x).length = k) (h0 : 0 < k) : ∀ (l : List α) (t : Nat), t < l.length * k → ∃ x, l[t / k]? = some x ∧ (l.flatMap enc)[t]? = (enc x)[t % k]?
 | [], t, ht => by simp at ht
 | x :: l, t, ht => by
  rw [List.flatMap_cons]
  by_cases h : t < k
  ·refine ⟨x, by rw [Nat.div_eq_of_lt h]; rfl, ?_⟩
   rw [List.getElem?_append_left (by rw [hk]; exact h), Nat.mod_eq_of_lt h]
  ·obtain ⟨s, rfl⟩ : ∃ s, t = s + k := ⟨t - k, by omega⟩
   obtain ⟨y, h1, h2⟩ := flatMap_at hk h0 l s (by rw [List.length_cons, Nat.succ_mul] at ht; omega)
   refine ⟨y, by rw [Nat.add_div_right _ h0]; exact h1, ?_⟩
   rw [List.getElem?_append_right (by rw [hk]; omega), hk, Nat.add_sub_cancel, Nat.add_mod_right]
   exact h2
theorem flatMap_lenK {enc : α → List Value} {k : Nat} (hk : ∀ x, (enc x).length = k) : ∀ l : List α, (l.flatMap enc).length = l.length * k
 | [] => by simp
 | x :: l => by rw [List.flatMap_cons, List.length_append, flatMap_lenK hk l, hk, List.length_cons, Nat.succ_mul]; omega
theorem flatK_gen2 [Inhabited α] {enc : α → List Value} {k : Nat} (hk : ∀ x, (enc x).length = k) (h0 : 0 < k) (l : List α) : flatK enc k l.toArray = (l.flatMap enc).toArray := by
 have hl := flatMap_lenK hk l
 refine ext_get! (by simp [hl]) (fun t ht => ?_)
 have ht' : t < l.length * k := by simpa using ht
 rw [get_flatK _ _ _ t (by simpa using ht')]
 obtain ⟨x, h1, h2⟩ := flatMap_at hk h0 l t ht'
 have h3 : t / k < l.length := (List.getElem?_eq_some_iff.1 h1).1
 have h4 : l.toArray[t / k]! = x := by
  rw [getElem!_pos _ _ (by simpa using h3)]
  simpa using (List.getElem?_eq_some_iff.1 h1).2
 rw [h4, getElem!_pos (l.flatMap enc).toArray t (by simp [hl]; exact ht')]
 have h5 : t % k < (enc x).length := by rw [hk]; exact Nat.mod_lt _ h0
 rw [getElem!_pos (enc x) _ h5]
 have h6 : t < (l.flatMap enc).length := by rw [hl]; exact ht'
 rw [List.getElem?_eq_getElem h6, List.getElem?_eq_getElem h5] at h2
 simpa using (Option.some.inj h2).symm
end
/-- A spelling whose words lie outside a block. -/
def Spl.far (w : World) (B g : Nat) (x : Spl) : Prop := x.ws.length ≤ maxLen ∧ RowAt w B x.at_ (strs x.ws) ∧ ∀ a, x.at_ = some a → a.block ≠ g
theorem RowAt.chg_ne {w w' : World} {B g : Nat} {a : Option Addr} {xs : List Value} (h : RowAt w B a xs) (hB : B ≤ w.heap.size) (hc : Chg (· = g) w w') (hne : ∀ p, a = some p → p.block ≠ g) : RowAt w' B a xs := fun hn => by
 obtain ⟨b, off, e, hb, hcc⟩ := h hn
 refine ⟨b, off, e, hb, fun i x hi => ?_⟩
 have h1 : w'.heap[b]? = w.heap[b]? := hc.block b (by omega) (hne _ e)
 exact (show w'.cell? ⟨b, off + i, none⟩ = w.cell? ⟨b, off + i, none⟩ by simp [World.cell?, h1]).trans (hcc i x hi)
def Spl.key (x : Spl) : List ByteArray × Int := (x.ws, x.cost)
abbrev SpIn (L : List Spl) := {x : Spl // x ∈ L}
theorem swoX (L : List Spl) : SWO (ltOf (fun x y : SpIn L => cmpX x.1.key y.1.key)) where
 irrefl x := by unfold ltOf; rw [decide_eq_false_iff_not, cmpX_lt]; exact ltX_irrefl _
 trans x y z h1 h2 := by
  unfold ltOf at *
  rw [decide_eq_true_iff, cmpX_lt] at *
  exact ltX_trans h1 h2
 ntrans x y z h1 h2 := by
  unfold ltOf at *
  rw [decide_eq_false_iff_not, cmpX_lt] at *
  intro hxz
  rcases ltX_tri y.1.key x.1.key with h | h | h
  ·exact h2 (ltX_trans h hxz)
  ·rw [h] at h2; exact h2 hxz
  ·exact h1 h
theorem sortW_chg {α : Type} {enc : α → List Value} [Inhabited α] {k : Nat} (w : World) (g m : Nat) (dk : Array α) (os : Array Obj) : Chg (· = g) w (sortWorldK enc k w g 0 m dk os) := by
 unfold sortWorldK putRowK
 refine ⟨rfl, rfl, rfl, by simp [grow, putRow, mapBlock, Sort.ahead], fun k hk hne => ?_⟩
 simp only [grow]
 rw [Array.getElem?_append_left (by simp [putRow, mapBlock, Sort.ahead]; exact hk)]
 simp [putRow, mapBlock, Sort.ahead, Array.getElem?_modify, show g ≠ k from fun e => hne e.symm]
theorem cmpLaysX (L : List Spl) (g size : Nat) (w : World) (hfar : ∀ x ∈ L, x.far w w.heap.size g) [Inhabited (SpIn L)] : CmpLays Tryz.prog 41 #[] (fun x : SpIn L => x.1.cells) 2 (fun x y => cmpX x.1.key y.1.key) g 0 size w := fun m os dk _ x y => by
 have hc := sortW_chg (enc := fun x : SpIn L => x.1.cells) (k := 2) w g m dk os
 obtain ⟨W, hW⟩ : ∃ W, sortWorldK (fun x : SpIn L => x.1.cells) 2 w g 0 m dk os = W := ⟨_, rfl⟩
 rw [hW] at hc ⊢
 obtain ⟨hx1, hx2, hx3⟩ := hfar x.1 x.2
 obtain ⟨hy1, hy2, hy3⟩ := hfar y.1 y.2
 refine (sp3_any x.1 y.1 w.heap.size W hc.size ⟨hx1, hx2.chg_ne (Nat.le_refl _) hc hx3⟩ ⟨hy1, hy2.chg_ne (Nat.le_refl _) hc hy3⟩).mono ?_
 rintro e w' ⟨rfl, o1, o2, o3, n, rfl⟩
 refine ⟨rfl, n, #[o1, o2, o3], ?_⟩
 rw [show (W.alloc o1).alloc o2 = grow W #[o1, o2] from by rw [alloc_eq_grow, alloc_eq_grow, grow_grow]; rfl]
 rw [alloc_eq_grow, grow_grow]
 rfl
theorem isAggX (w : World) : (isAgg 52).run Tryz.prog w = .ok true w := by kernel_rfl
theorem sizeOfX (w : World) : (Go.sizeOf 52).run Tryz.prog w = .ok 2 w := by kernel_rfl
theorem sortSp_any (L : List Spl) (hne : 0 < L.length) (hinj : ∀ x ∈ L, ∀ y ∈ L, x.key = y.key → x = y) (g c base : Nat) (w : World) (hfar : ∀ x ∈ L, x.far w w.heap.size g) (hle : L.length ≤ 1000000000000000) (hown : w.ownsRow base 52 2 (.slice (some ⟨g, 0, none⟩) L.length c) L.length (L.flatMap Spl.cells)) :
  Calls Tryz.prog 40 #[.slice (some ⟨g, 0, none⟩) L.length c, .func (.func 41) #[] #[]] w fun e w' =>
   e = .returned (.tuple #[]) ∧ ∃ S : List Spl, S.Perm L ∧ (S.map Spl.key).Pairwise (fun a b => ¬ ltX b a) ∧ w'.ownsRow base 52 2 (.slice (some ⟨g, 0, none⟩) L.length c) L.length (S.flatMap Spl.cells) ∧ Chg (· = g) w w' := by
 haveI : Inhabited (SpIn L) := ⟨⟨L[0], List.getElem_mem hne⟩⟩
 have hm : (L.attachWith (· ∈ L) (fun _ h => h)).map Subtype.val = L := by simp
 have hlm : (L.attachWith (· ∈ L) (fun _ h => h)).length = L.length := by simp
 obtain ⟨l, hl⟩ : ∃ l : List (SpIn L), L.attachWith (· ∈ L) (fun _ h => h) = l := ⟨_, rfl⟩
 rw [hl] at hm hlm
 have hfm : ∀ l : List (SpIn L), l.flatMap (fun x : SpIn L => x.1.cells) = (l.map Subtype.val).flatMap Spl.cells := fun l => by rw [List.flatMap_map]
 have hk : ∀ x : SpIn L, x.1.cells.length = 2 := fun _ => rfl
 have hown0 := hown
 obtain ⟨hl0, h1⟩ := hown
 rcases h1 with ⟨e, _⟩ | ⟨g', cap, cur, e, hb, hh, hn, hmx, hs, ht⟩
 ·cases e
 ·injection e with e1 _ e3
  injection e1 with e1
  injection e1 with e1
  subst e1; subst e3
  have hlt' := (hown0.lt g rfl).2
  have hH : HoldsK (fun x : SpIn L => x.1.cells) 2 w g 0 l.toArray := by
   unfold HoldsK
   rw [flatK_gen2 hk (by decide), hfm, hm]
   intro j hj
   have hj' : j < L.length * 2 := by simpa [hl0] using hj
   refine ⟨?_, by simp [World.frozen?, hh]⟩
   have e1 : (cur.toList.take (L.length * 2))[j]? = (L.flatMap Spl.cells)[j]? := by rw [ht]
   rw [List.getElem?_take, if_pos hj', Array.getElem?_toList] at e1
   simp only [World.cell?, hh, Nat.zero_add]
   simp only [Option.isSome_none, Bool.false_eq_true, if_false]
   rw [e1, List.getElem?_eq_getElem (by simpa using hj)]
   rw [getElem!_pos (L.flatMap Spl.cells).toArray j hj]
   simp
  have hq := AnyQ.slices_SortFunc_total Tryz.sortSp 2 isAggX sizeOfX (fun x : SpIn L => x.1.cells) hk (fun x v hv => by simp [Spl.cells] at hv; rcases hv with rfl | rfl <;> rfl) (fun x y => cmpX x.1.key y.1.key) (swoX L)
   41 #[] g 0 c l.toArray w (enters_of Tryz.func41 (by kernel_rfl) rfl) (cmpLaysX L g _ w hfar) hH hlt' (by simp; omega) (fun x y h1 h2 => by
    unfold ltOf at h1 h2
    rw [decide_eq_false_iff_not, cmpX_lt] at h1 h2
    rcases ltX_tri x.1.key y.1.key with h | h | h
    ·exact absurd h h1
    ·exact Subtype.ext (hinj _ x.2 _ y.2 h)
    ·exact absurd h h2)
  have hsz : l.toArray.size = L.length := by simpa using hlm
  rw [hsz] at hq
  refine Calls.mono (show Calls Tryz.prog 40 _ _ _ from hq) ?_
  rintro e w' ⟨rfl, n, os, hw⟩
  obtain ⟨S, hS⟩ : ∃ S, S = l.mergeSort fun x y => !(ltOf (fun x y : SpIn L => cmpX x.1.key y.1.key)) y x := ⟨_, rfl⟩
  have hp : S.Perm l := by rw [hS]; exact List.mergeSort_perm _ _
  have hsl : S.length = L.length := hp.length_eq.trans hlm
  rw [← hS] at hw
  have hcg := sortW_chg (enc := fun x : SpIn L => x.1.cells) (k := 2) w g n S.toArray os
  rw [← hw] at hcg
  unfold sortWorldK putRowK at hw
  rw [flatK_gen2 hk (by decide), hfm] at hw
  have O := swoX L
  have hSl : ((S.map Subtype.val).flatMap Spl.cells).length = L.length * 2 := by rw [flatMap_lenK (k := 2) (fun _ => rfl), List.length_map, hsl]
  refine ⟨rfl, S.map Subtype.val, ?_, ?_, ?_, hcg⟩
  ·have := hp.map Subtype.val
   rwa [hm] at this
  ·have h1 : S.Pairwise fun a b => !(ltOf (fun x y : SpIn L => cmpX x.1.key y.1.key)) b a := by
    rw [hS]
    refine List.pairwise_mergeSort (fun a b c h1 h2 => ?_) (fun a b => ?_) l
    ·simp only [Bool.not_eq_true'] at *
     exact O.ntrans c b a h2 h1
    ·cases h : ltOf (fun x y : SpIn L => cmpX x.1.key y.1.key) b a with
     | false => rfl
     | true =>
      cases h' : ltOf (fun x y : SpIn L => cmpX x.1.key y.1.key) a b with
      | false => rfl
      | true =>
       have := O.trans _ _ _ h h'
       rw [O.irrefl] at this; cases this
   rw [List.map_map, List.pairwise_map]
   refine h1.imp (fun {a b} hab => ?_)
   have h4 : ltOf (fun x y : SpIn L => cmpX x.1.key y.1.key) b a = false := by simpa using hab
   unfold ltOf at h4
   rwa [decide_eq_false_iff_not, cmpX_lt] at h4
  ·subst hw
   generalize (S.map Subtype.val).flatMap Spl.cells = F at hSl ⊢
   refine ⟨hSl, .inr ⟨g, c, putCells id 0 F.toArray cur, rfl, hb, ?_, hn, hmx, by simpa [putCells] using hs, ?_⟩⟩
   ·simp only [grow]
    rw [Array.getElem?_append_left (by simp [putRow, mapBlock, Sort.ahead]; exact hlt')]
    simp [putRow, mapBlock, Sort.ahead, Array.getElem?_modify, hh, onCells]
   ·apply List.ext_getElem?
    intro j
    rw [List.getElem?_take, Array.getElem?_toList]
    by_cases hj : j < L.length * 2
    ·have hjc : j < cur.size := by rw [hs]; omega
     have hjf : j < F.length := by rw [hSl]; exact hj
     simp only [if_pos hj, putCells, Array.getElem?_mapIdx, Array.getElem?_eq_getElem hjc, Option.map_some]
     rw [if_pos (by simp; exact hjf), List.getElem?_eq_getElem hjf]
     simp [getElem!_pos, hjf]
    ·rw [if_neg hj, List.getElem?_eq_none (by rw [hSl]; omega)]
end Go.Proofs.YthachfkcgdfdfaaGreatDoor
