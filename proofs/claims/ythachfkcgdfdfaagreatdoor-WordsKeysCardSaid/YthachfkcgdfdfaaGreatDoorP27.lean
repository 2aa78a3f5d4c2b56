/- BK · RB -/
import Derived.Test.YthachfkcgdfdfaaGreatDoorP25
/- Walks: words.Key. -/
namespace Go.Proofs.YthachfkcgdfdfaaGreatDoor
open Go.RowKit Classical
attribute [local go_sem] Oper.semAt_some

theorem joinB_lib : ∀ (l : List (List UInt8)), Lib.join l [32] = joinB l
 | [] => rfl
 | [p] => by rw [Lib.join_one]; rfl
 | p :: q :: l => by
  have ih := joinB_lib (q :: l)
  rw [Lib.join_cons] at ih ⊢
  show _ = p ++ 32 :: joinB (q :: l)
  rw [← ih]
  simp [Lib.joinTail]
theorem boxed_appended2 {W w1 : World} {n₀ B : Nat} {t e : TypeId} {size : Nat} {v v' : Value} {k m : Nat} {xs ys : List Value} {tmp : Obj}
  (hv : Boxed W B t v) (hte : t ≠ e) (hrow : W.ownsRow n₀ e size v k xs) (hn₀ : n₀ ≤ W.heap.size) (hB : B < n₀)
  (hown' : w1.ownsRow n₀ e size v' m ys) (hgrow : (W.alloc tmp).grownBy w1 v.ownBlock) :
  Boxed w1 B t v ∧ Boxed (w1.setCell ⟨B, 0, none⟩ v') B t v' ∧ (w1.setCell ⟨B, 0, none⟩ v').ownsRow n₀ e size v' m ys ∧ KeepsOthers W (w1.setCell ⟨B, 0, none⟩ v') ∧ Below B W (w1.setCell ⟨B, 0, none⟩ v') := by
 obtain ⟨h1, h2, -, h4, h5⟩ := hv.appended hte (own_base hrow (Nat.le_of_lt hB)) (by omega) (Nat.le_refl _) (own_base hown' (Nat.le_of_lt hB)) hgrow
 exact ⟨h1, h2, own_setCell hown' (fun e => by have := (hown'.lt _ e).1; show False; simp at this; omega) _, h4, h5⟩

theorem word_size {s x : ByteArray} (h : bl x ∈ wordsOf (bl s)) : x.size ≤ s.size := by
 rw [wordsOf_parts] at h
 have h1 := (List.mem_filter.1 h).1
 rw [← piecesB_bl] at h1
 obtain ⟨t, ht, e⟩ := List.mem_map.1 h1
 rw [← bl_inj e]
 exact piecesB_size s t ht
theorem keeps_below {W W' : World} (h : Below W.heap.size W W') : KeepsOthers W W' := ⟨h.size, fun k _ hk _ => (h.block k (Array.getElem?_eq_some_iff.1 hk).1).trans hk⟩
theorem baseW_size {b : Brid} {i : Int} {x : List UInt8} {s : ByteArray} (h : BaseW b i x s 0) : s.size ≤ 1000000 := by
 obtain ⟨M, e1, -, ⟨h1, -, h2⟩ | ⟨-, A, B, -, -, f, e2, -, ⟨-, -, h2⟩ | ⟨-, ts, e3, h3, ⟨h4, -, h5⟩ | ⟨-, ⟨-, -, h5⟩ | ⟨h5, -⟩ | ⟨-, -, h5⟩⟩⟩⟩⟩ := h
 ·exact absurd h2.symm h1
 ·cases h2
 ·exact absurd h5.symm h4
 ·cases h5
 ·have : s ∈ ts := (List.mem_filter.1 (show s ∈ ts.filter _ by rw [h5]; exact List.mem_singleton.2 rfl)).1
  exact runs_size h3 this
 ·cases h5
/-- Between two rounds of Key's loop. -/
def KeyI (w1 : World) (o : Nat) (b : Brid) (i : Int) (pre : List ByteArray) (W : World) : Prop :=
 (∃ v outs, Boxed W o 29 v ∧ W.ownsRow (o + 2) 9 1 v outs.length (strs outs) ∧ outs.length = pre.length ∧ ∀ (k : Nat) (x s : ByteArray), pre[k]? = some x → outs[k]? = some s → BaseW b i (bl x) s 0) ∧ Below o w1 W ∧ o + 2 ≤ W.heap.size
/-- A round has left. -/
def KeyX (w : World) (b : Brid) (i : Int) (c : Code) (pre : List ByteArray) (W : World) : Prop :=
 c = .ret ∧ ∃ pre' x s err, pre = pre' ++ [x] ∧ err ≠ 0 ∧ (∀ (j : Nat) (v : ByteArray), pre'[j]? = some v → ∃ r, BaseW b i (bl v) r 0) ∧ BaseW b i (bl x) s err ∧ Blk W (w.heap.size + 1 + 1) #[.string ⟨#[]⟩] 9 ∧ Blk W (w.heap.size + 1 + 1 + 1) #[.int .i64 err] 33 ∧ Below w.heap.size w W
def KeyPost (b : Brid) (lang : ByteArray) (i : Int) (t : List UInt8) (w : World) (e : Ending) (w' : World) : Prop :=
 ∃ (s : ByteArray) (err : Int), e = .returned (.tuple #[.string s, .int .i64 err]) ∧ KeyOut b lang i t (bl s) err ∧ Below w.heap.size w w'
/-- Two cells of results. -/
theorem key_ret {b : Brid} {lang : ByteArray} {i : Int} {t : List UInt8} {s : ByteArray} {err : Int} {w W : World} {n : Nat} {tmps : Array Value} {b1 b2 : Nat} (hK : KeyOut b lang i t (bl s) err) (t1 : tmps[4]?.getD undef = .pointer (some ⟨b1, 0, none⟩)) (t2 : tmps[5]?.getD undef = .pointer (some ⟨b2, 0, none⟩))
  (m1 : W.cell? ⟨b1, 0, none⟩ = some (.string s)) (m2 : W.cell? ⟨b2, 0, none⟩ = some (.int .i64 err)) (hb : Below w.heap.size w W) :
  bodyPostM Fence.wide n Tryz.prog Tryz.f12 (KeyPost b lang i t w) .ret { tmps := tmps, defers := [] } W := by
 refine bodyPostM_ret (v := .tuple #[.string s, .int .i64 err]) ?_ rfl ?_
 ·simp [results, Tryz.results12, go_sem, t1, t2, m1, m2]
 ·exact ⟨s, err, rfl, hK, hb⟩
theorem key_mark {b : Brid} {lang : ByteArray} {i : Int} {t : List UInt8} {s : ByteArray} {err : Int} {w W : World} {n x D : Nat} {tmps : Array Value} {t1' t2' : TypeId} (hK : KeyOut b lang i t (bl s) err) (t1 : tmps[4]?.getD undef = .pointer (some ⟨x + 1 + 1, 0, none⟩)) (t2 : tmps[5]?.getD undef = .pointer (some ⟨x + 1 + 1 + 1, 0, none⟩))
  (hD : x + 3 < D) (hw : w.heap.size ≤ x) (hKD : W.heap[D]? = some (.deferred (some []))) (k1 : Blk W (x + 1 + 1) #[.string s] t1') (k2 : Blk W (x + 1 + 1 + 1) #[.int .i64 err] t2') (hb : Below w.heap.size w W) :
  bodyPostM Fence.wide n Tryz.prog Tryz.f12 (KeyPost b lang i t w) .ret { tmps := tmps, defers := [{ target := .collected D, args := #[] }] } W := by
 have m1 := (blk_putObj k1 (D := D) (by omega) (.deferred none)).cell 0
 have m2 := (blk_putObj k2 (D := D) (by omega) (.deferred none)).cell 0
 simp only [List.getElem?_toArray, List.getElem?_cons_zero] at m1 m2
 refine bodyPostM_mark (v := .tuple #[.string s, .int .i64 err]) hKD ?_ rfl ?_
 ·simp [results, Tryz.results12, go_sem, t1, t2, m1, m2]
 ·exact ⟨s, err, rfl, hK, hb.trans (((Below.refl _ W).grown (grownBy_putObj' W D _) hb.size (fun k e => by cases e; omega)))⟩

set_option maxRecDepth 100000 in
set_option maxHeartbeats 2000000 in
theorem Key_any (b : Brid) (v : Value) (lang text : ByteArray) (i : Int) (hlang : lang.size ≤ maxLen) (htext : text.size ≤ 1000000000) (w : World) (h : BridAt w w.heap.size v b) :
  Calls Tryz.prog 12 #[v, nameV lang i text] w (KeyPost b lang i (bl text) w) := by
 have hB := h
 obtain ⟨a, c, a', c', rfl, hn, hr, hA, hR⟩ := h
 obtain ⟨i0, hi, hz0, hz1, hz2⟩ := info_parts info_str17
 unfold nameV
 refine (callsIn_wide (n := 5)).1 ?_
 refine callsIn_of_wp_marks Tryz.func12 rfl trivial ?_ rfl
 simp only [Tryz.ntmps12, List.size_toArray, List.length_cons, List.length_nil, Nat.reduceAdd, Nat.reduceSub, Array.replicate_succ, Array.replicate_zero, List.push_toArray, List.append_toArray, List.nil_append, List.cons_append]
 refine wpIn_wide.2 ?_
 go_upto_region 1 with (fail)
 obtain ⟨W0, hW0⟩ : ∃ W0 : World, W0 = (((w.alloc (.cells #[.slice a b.scripts.length c, .slice a' b.rules.length c'] 25)).alloc (.cells #[.string lang, .int .i64 i, .string text] 27)).alloc (.cells #[.string ⟨#[]⟩] 9)).alloc (.cells #[.int .i64 0] 33) := ⟨_, rfl⟩
 rw [← hW0]
 have hw0 : Below w.heap.size w W0 := by rw [hW0]; exact ((((Below.refl _ _).alloc (Nat.le_refl _) _).alloc (by simp) _).alloc (by simp; omega) _).alloc (by simp; omega) _
 have hsz : W0.heap.size = w.heap.size + 4 := by rw [hW0]; simp
 have hB0 : Blk W0 w.heap.size #[.slice a b.scripts.length c, .slice a' b.rules.length c'] 25 := by rw [hW0]; exact (((Blk.new _ _ _).alloc _).alloc _).alloc _
 have hB1 : Blk W0 (w.heap.size + 1) #[.string lang, .int .i64 i, .string text] 27 := by rw [hW0]; have := ((Blk.new (w.alloc (.cells #[.slice a b.scripts.length c, .slice a' b.rules.length c'] 25)) #[.string lang, .int .i64 i, .string text] 27).alloc (.cells #[.string ⟨#[]⟩] 9)).alloc (.cells #[.int .i64 0] 33); simpa using this
 have hB2 : Blk W0 (w.heap.size + 2) #[.string ⟨#[]⟩] 9 := by rw [hW0]; have := (Blk.new ((w.alloc (.cells #[.slice a b.scripts.length c, .slice a' b.rules.length c'] 25)).alloc (.cells #[.string lang, .int .i64 i, .string text] 27)) #[.string ⟨#[]⟩] 9).alloc (.cells #[.int .i64 0] 33); simpa using this
 have hB3 : Blk W0 (w.heap.size + 3) #[.int .i64 0] 33 := by rw [hW0]; have := Blk.new (((w.alloc (.cells #[.slice a b.scripts.length c, .slice a' b.rules.length c'] 25)).alloc (.cells #[.string lang, .int .i64 i, .string text] 27)).alloc (.cells #[.string ⟨#[]⟩] 9)) #[.int .i64 0] 33; simpa using this
 clear hW0
 have HK := Lib.hid (fun (wr : World) (hbr : Below W0.heap.size W0 wr) => (show Blk wr w.heap.size #[.slice a b.scripts.length c, .slice a' b.rules.length c'] 25 ∧ Blk wr (w.heap.size + 1) #[.string lang, .int .i64 i, .string text] 27 ∧ Blk wr (w.heap.size + 1 + 1) #[.string ⟨#[]⟩] 9 ∧ Blk wr (w.heap.size + 1 + 1 + 1) #[.int .i64 0] 33 ∧ BridAt wr wr.heap.size (.agg #[.slice a b.scripts.length c, .slice a' b.rules.length c']) b ∧ Below w.heap.size w wr from
  have hbw := hw0.trans (hbr.mono (by omega))
  ⟨hB0.below hbr (by omega), hB1.below hbr (by omega), hB2.below hbr (by omega), hB3.below hbr (by omega), (hB.below hbw (Nat.le_refl _)).more hbw.size, hbw⟩))
 clear hB0 hB1 hB2 hB3 hB hA hR
 obtain ⟨r0, r1, -, -, hB0, -⟩ := HK.out W0 (Below.refl _ _)
 have x0 : W0.cell? ⟨w.heap.size, 0, none⟩ = _ := r0.cell 0
 have x1 : W0.cell? ⟨w.heap.size, 1, none⟩ = _ := r0.cell 1
 have x2 : W0.cell? ⟨w.heap.size + 1, 0, none⟩ = _ := r1.cell 0
 have x3 : W0.cell? ⟨w.heap.size + 1, 1, none⟩ = _ := r1.cell 1
 have x4 : W0.cell? ⟨w.heap.size + 1, 2, none⟩ = _ := r1.cell 2
 simp only [List.getElem?_toArray, List.getElem?_cons_zero, List.getElem?_cons_succ] at x0 x1 x2 x3 x4
 have HV := Lib.hid (WValid_any b _ lang text i hlang htext W0 hB0)
 clear r0 r1 hB0
 by_cases hok : NameOk b lang i (bl text)
 case neg =>
  have Hout := Lib.hid (show KeyOut b lang i (bl text) (bl ⟨#[]⟩) 1 from .inl ⟨hok, rfl, rfl⟩)
  have Hd := Lib.hid (decide_eq_false hok)
  clear hok
  go_wp2_with (refine HV.out.mono ?_; rintro e w1 ⟨rfl, hb1⟩; rw [Hd.out]; obtain ⟨-, -, r2, r3, -, hbw⟩ := HK.out w1 hb1; have f2 := r2.frozen 0; have f3 := r3.frozen 0; have y2 := r2.cell 0; have y3 := r3.cell 0)
  have k2 : Blk ((w1.setCell ⟨w.heap.size + 1 + 1, 0, none⟩ (.string ⟨#[]⟩)).setCell ⟨w.heap.size + 1 + 1 + 1, 0, none⟩ (.int .i64 1)) (w.heap.size + 1 + 1) #[.string ⟨#[]⟩] 9 := (r2.set_ 0 _).far (by simp) _
  have k3 : Blk ((w1.setCell ⟨w.heap.size + 1 + 1, 0, none⟩ (.string ⟨#[]⟩)).setCell ⟨w.heap.size + 1 + 1 + 1, 0, none⟩ (.int .i64 1)) (w.heap.size + 1 + 1 + 1) #[.int .i64 1] 33 := (r3.far (by simp) _).set_ 0 _
  exact key_ret Hout.out rfl rfl (k2.cell 0) (k3.cell 0) ((hbw.setCell (by show w.heap.size ≤ w.heap.size + 1 + 1; omega) _).setCell (by show w.heap.size ≤ w.heap.size + 1 + 1 + 1; omega) _)
 have Hd := Lib.hid (decide_eq_true hok)
 have Hok := Lib.hid hok
 clear hok
 go_wp2_with fail
 refine HV.out.mono ?_
 rintro e w1 ⟨rfl, hb1⟩
 rw [Hd.out]
 clear x0 x1 x2 x3 x4
 go_upto_region 4 with (fail)
 obtain ⟨W2, hW2⟩ : ∃ W2 : World, W2 = w1.alloc (.cells #[.slice none 0 0] 29) := ⟨_, rfl⟩
 have hb2 : Below w1.heap.size w1 W2 := by rw [hW2]; exact (Below.refl _ _).alloc (Nat.le_refl _) _
 have hs2 : W2.heap.size = w1.heap.size + 1 := by rw [hW2]; simp
 have g0 : Boxed W2 w1.heap.size 29 (.slice none 0 0) := by rw [hW2]; exact Boxed.new _ _ _
 rw [← hW2]
 clear hW2
 obtain ⟨-, r1, -, -, -, -⟩ := HK.out W2 (hb1.trans (hb2.mono hb1.size))
 have x4 : W2.cell? ⟨w.heap.size + 1, 2, none⟩ = _ := r1.cell 2
 simp only [List.getElem?_toArray, List.getElem?_cons_zero, List.getElem?_cons_succ] at x4
 clear r1
 have hxo : w.heap.size + 4 ≤ w1.heap.size := by have := hb1.size; omega
 obtain ⟨o, ho⟩ : ∃ o, w1.heap.size = o := ⟨_, rfl⟩
 rw [ho] at g0 hb2 hs2 hxo ⊢
 go_wp2_with (refine (parts_any text _).mono ?_; rintro e w3 ⟨rfl, hw3⟩; clear x4; subst w3)
 obtain ⟨W3, hW3⟩ : ∃ W3 : World, W3 = W2.alloc (.cells #[.string text] 9) := ⟨_, rfl⟩
 rw [← hW3]
 have hb3 : Below W2.heap.size W2 W3 := by rw [hW3]; exact (Below.refl _ _).alloc (Nat.le_refl _) _
 have hs3 : W3.heap.size = o + 2 := by rw [hW3]; simp [hs2]
 have g0' : Boxed W3 o 29 (.slice none 0 0) := by rw [hW3]; exact g0.alloc _
 have g1 : Blk W3 (o + 1) #[.string text] 9 := by rw [hW3, ← hs2]; exact Blk.new _ _ _
 have hb13 : Below o w1 W3 := hb2.trans (hb3.mono (by omega))
 have ho' : W0.heap.size ≤ o := by omega
 clear hW3 g0 hb2 hb3
 refine (wpIn_wide (n := 5)).1 ?_
 refine wpIn_range_turns (α := ByteArray) (encs := fun x => #[.string x]) (Kp := KeepT (o + 1)) (Tn := TurnT (o + 1)) (S := fun ys => ys.map bl = wordsOf (bl text)) (Sp := fun pre => pre.map bl <+: wordsOf (bl text)) (G := fun pre x => (pre ++ [x]).map bl <+: wordsOf (bl text)) (w0 := W3)
  rfl (by omega) (gf := 64) (lb := #[.pointer (some ⟨o + 1, 0, none⟩)]) rfl trivial (enters_of Tryz.func64 (by kernel_rfl) rfl)
  (parts_seq _ (by omega) (o + 1) text (by unfold maxLen; omega) W3 g1) (fun h k => k.trans h) ?kb (Below.refl _ _) (fun _ => rfl) ?tl (KeyI w1 o b i) (KeyX w b i) ?hI ?hIx ?hT ?hTx ?h0
  (fun x => { tmps := #[.agg #[.slice a b.scripts.length c, .slice a' b.rules.length c'], .agg #[.string lang, .int .i64 i, .string text], .pointer (some ⟨w.heap.size, 0, none⟩), .pointer (some ⟨w.heap.size + 1, 0, none⟩), .pointer (some ⟨w.heap.size + 1 + 1, 0, none⟩), .pointer (some ⟨w.heap.size + 1 + 1 + 1, 0, none⟩), .pointer (some ⟨o, 0, none⟩), .string x, undef, undef, undef,
   .agg #[.slice a b.scripts.length c, .slice a' b.rules.length c'], .agg #[.string lang, .int .i64 i, .string text], .bool true, .bool false, .pointer (some ⟨w.heap.size + 1, 2, none⟩), .string text, .func (.func 64) #[] #[.pointer (some ⟨o + 1, 0, none⟩)], .string x,
   undef, undef, undef, undef, undef, undef, undef, undef, undef, undef, undef, undef, undef, undef, undef, undef, undef, undef, undef, undef, undef], defers := [] }) ?assign ?body ?done ?stop
 case kb =>
  intro W l ob ob' hl _ _
  exact World.putObj_heap_other (by omega)
 case tl =>
  rintro X Y l ob ⟨v, rfl⟩ hl hx _
  exact (Below.heap_setCell X ⟨o + 1, 0, none⟩ _ l (by show l ≠ o + 1; omega)).trans hx
 case hI =>
  rintro pre X Y row ⟨⟨v, outs, h1, h2, h3, h4⟩, h5, h6⟩ hg hr
  obtain ⟨v', k1, k2, -⟩ := holdsRow_own (β := Unit) (o + 2) o 29 9 1 (fun _ => outs.length) (fun _ => strs outs) (fun _ _ => True) () X Y row ⟨v, h1, h2, trivial⟩ hg (fun r e => (hr r e).2)
  exact ⟨⟨v', outs, k1, k2, h3, h4⟩, h5.grown hg (by have := h5.size; omega) (fun k hk => by have := (hr k hk).1; omega), Nat.le_trans h6 hg.size⟩
 case hIx =>
  rintro cc pre X Y row ⟨h1, pre', x, s, err, h2, h3, h4, h5, h6, h7, h8⟩ hg hr
  exact ⟨h1, pre', x, s, err, h2, h3, h4, h5, own_blk h6 hg (fun r e => (hr r e).2), own_blk h7 hg (fun r e => (hr r e).2), h8.grown hg h8.size (fun k hk => by have := (hr k hk).1; omega)⟩
 case hT =>
  rintro pre X Y ⟨⟨v, outs, h1, h2, h3, h4⟩, h5, h6⟩ ⟨u, rfl⟩
  exact ⟨⟨v, outs, h1.other (by show o ≠ o + 1; omega) _, own_setCell h2 (fun e => by have := (h2.lt _ e).1; show False; simp at this) _, h3, h4⟩, h5.setCell (by show o ≤ o + 1; omega) _, by simpa using h6⟩
 case hTx =>
  rintro cc pre X Y ⟨h1, pre', x, s, err, h2, h3, h4, h5, h6, h7, h8⟩ ⟨u, rfl⟩
  exact ⟨h1, pre', x, s, err, h2, h3, h4, h5, h6.far (by show w.heap.size + 1 + 1 ≠ o + 1; omega) _, h7.far (by show w.heap.size + 1 + 1 + 1 ≠ o + 1; omega) _, h8.setCell (by show w.heap.size ≤ o + 1; omega) _⟩
 case h0 => exact ⟨⟨_, [], g0', World.ownsRow_nil _ _ _ _, rfl, by simp⟩, hb13, by omega⟩
 case assign =>
  intro l x W K hK
  gi_wp2
  exact hK
 case body =>
  rintro l pre x W ⟨⟨v, outs, hv, hrow, hol, hout⟩, hbW, hso⟩ hpx
  have hpl := hpx.length_le
  simp only [List.map_append, List.length_append, List.length_map, List.length_cons, List.length_nil] at hpl
  have hwl : (wordsOf (bl text)).length ≤ 1000000000 := Nat.le_trans (wordsOf_len _) (by rw [bl_length]; exact htext)
  have hxs : x.size ≤ text.size := by
   refine word_size ?_
   obtain ⟨r, hr⟩ := hpx
   rw [← hr]; simp
  have hb0W : Below W0.heap.size W0 W := hb1.trans (hbW.mono ho')
  obtain ⟨r0, r1, -, -, hBr, -⟩ := HK.out W hb0W
  have x0 : W.cell? ⟨w.heap.size, 0, none⟩ = _ := r0.cell 0
  have x1 : W.cell? ⟨w.heap.size, 1, none⟩ = _ := r0.cell 1
  have x3 : W.cell? ⟨w.heap.size + 1, 1, none⟩ = _ := r1.cell 1
  simp only [List.getElem?_toArray, List.getElem?_cons_zero, List.getElem?_cons_succ] at x0 x1 x3
  have HW := Lib.hid (CallsIn.inRound l ((callsIn_wide (n := 2)).2 (Write0_any b _ i x (by unfold maxLen; omega) W hBr)))
  have Hout := Lib.hid hout
  clear r0 r1 hBr hout
  gi_wp2
  refine ⟨trivial, HW.out.mono ?_⟩
  rintro e w4 ⟨s, err, rfl, hwo, hb4⟩
  clear x0 x1 x3
  have hwo' : BaseW b i (bl x) s err := by
   unfold BaseW
   rwa [show bs (bl x) = x from bl_inj (bl_bs _)]
  have hb04 : Below W0.heap.size W0 w4 := hb0W.trans (hb4.mono hb0W.size)
  by_cases he : err = 0
  case neg =>
   have d1 : (err != 0) = true := by simpa using he
   obtain ⟨-, -, r2, r3, -, hbw⟩ := HK.out w4 hb04
   have f2 := r2.frozen 0
   have f3 := r3.frozen 0
   have y2 := r2.cell 0
   have y3 := r3.cell 0
   have Hwo := Lib.hid hwo'
   have He := Lib.hid he
   clear hwo hwo' he
   gi_wp2
   have k2 : Blk ((w4.setCell ⟨w.heap.size + 1 + 1, 0, none⟩ (.string ⟨#[]⟩)).setCell ⟨w.heap.size + 1 + 1 + 1, 0, none⟩ (.int .i64 err)) (w.heap.size + 1 + 1) #[.string ⟨#[]⟩] 9 := (r2.set_ 0 _).far (by simp) _
   have k3 : Blk ((w4.setCell ⟨w.heap.size + 1 + 1, 0, none⟩ (.string ⟨#[]⟩)).setCell ⟨w.heap.size + 1 + 1 + 1, 0, none⟩ (.int .i64 err)) (w.heap.size + 1 + 1 + 1) #[.int .i64 err] 33 := (r3.far (by simp) _).set_ 0 _
   refine ⟨(((keeps_below hb4).trans (KeepsOthers.setCell _ _ _)).trans (KeepsOthers.setCell _ _ _)).from _, .inr ⟨rfl, rfl, pre, x, s, err, rfl, He.out, ?_, Hwo.out, k2, k3, (hbw.setCell (by show w.heap.size ≤ w.heap.size + 1 + 1; omega) _).setCell (by show w.heap.size ≤ w.heap.size + 1 + 1 + 1; omega) _⟩⟩
   intro j y hj
   obtain ⟨hjl, -⟩ := List.getElem?_eq_some_iff.1 hj
   exact ⟨_, Hout.out j y (outs[j]'(by omega)) hj (List.getElem?_eq_getElem _)⟩
  subst he
  have hon : outs.length < 1000000000 := by omega
  have Hol := Lib.hid hol
  clear hol hpl
  have hv4 : Boxed w4 o 29 v := (hb4.block o (by omega)).trans hv
  have hrow4 : w4.ownsRow (o + 2) 9 1 v outs.length (strs outs) := own_up hrow (Chg.of_below (fun _ => False) hb4) (fun _ h => h.elim)
  have hsz4 : o + 2 ≤ w4.heap.size := Nat.le_trans hso hb4.size
  have Hwo := Lib.hid hwo'
  have hcv := hv4.cell
  obtain ⟨ra, rc, rfl, hlr, hra⟩ := RowAt.of_own hrow4
  clear hra hlr hwo hwo'
  gi_wp2_with (gi_at_builtin; refine wpListIn_append_own _ rfl _ _ 29 rfl (o + 2) 9 i0 (.string ByteArray.empty) 1 16 Tryz.underlying29 hi hz0 hz1 hz2 rfl (by decide) _ _ _ rfl (hrow4.alloc _) ⟨w4.heap.size, 0, none⟩ 1 1 [.string s] rfl rfl (cell_one_new _ _ _) (by simp [Value.oneCell']) (by unfold maxLen; omega) (by omega) (by simp; omega) ?_; intro v' w5 hown' hgrow _; obtain ⟨g', cap', rfl⟩ := ownsRow_succ hown'; obtain ⟨hv1, hv2, hr2, hk2, hb2'⟩ := boxed_appended2 hv4 (by decide) hrow4 hsz4 (by omega) hown' hgrow; have hc1 := hv1.cell; have hf1 := hv1.frozen)
  have hsz5 : o + 2 ≤ w5.heap.size := by have := hgrow.size; simp at this; omega
  refine ⟨((keeps_below hb4).trans hk2).from _, .inl ⟨rfl, ?_, ⟨_, outs ++ [s], hv2, ?_, by simp [Hol.out], ?_⟩, hbW.trans ((hb4.mono (by omega)).trans hb2'), by simpa using hsz5⟩⟩
  ·exact (Below.heap_setCell w5 ⟨o, 0, none⟩ _ (o + 1) (by show o + 1 ≠ o; omega)).trans ((hgrow.block (o + 1) (by simp; omega) (fun e => by have := (hrow4.lt _ e.symm).1; omega)).trans ((Below.heap_alloc w4 _ (o + 1) (by omega)).trans (hb4.block (o + 1) (by omega))))
  ·rw [show strs (outs ++ [s]) = strs outs ++ [.string s] by simp [strs]]
   simpa using hr2
  ·intro k y t hy ht
   rcases Nat.lt_or_ge k outs.length with hk | hk
   ·rw [List.getElem?_append_left (by have := Hol.out; omega)] at hy
    rw [List.getElem?_append_left hk] at ht
    exact Hout.out k y t hy ht
   ·have := Hol.out
    rw [List.getElem?_append_right (by omega)] at hy
    rw [List.getElem?_append_right (by omega)] at ht
    obtain ⟨q1, rfl⟩ := List.getElem?_eq_some_iff.1 hy
    obtain ⟨q2, rfl⟩ := List.getElem?_eq_some_iff.1 ht
    simpa using Hwo.out
 case done =>
  rintro D ys W hD hS ⟨⟨v, outs, hv, hrow, hol, hout⟩, hbW, hso⟩ hK
  have hb0W : Below W0.heap.size W0 W := hb1.trans (hbW.mono ho')
  have hcv := hv.cell
  have hlys : (wordsOf (bl text)).length = ys.length := by rw [← hS, List.length_map]
  obtain ⟨A0, hA0⟩ := Hok.out.has
  obtain ⟨-, -, hw1, hw6⟩ := Hok.out.parts hA0
  obtain ⟨ra, rc, rfl, hlr, hra⟩ := RowAt.of_own hrow
  have hcap : ∃ g, ra = some ⟨g, 0, none⟩ ∧ outs.length ≤ rc := by
   rcases hrow.2 with ⟨-, h0⟩ | ⟨g, cap, cur, e, -, -, h1, -⟩
   ·omega
   ·cases e; exact ⟨g, rfl, h1⟩
  obtain ⟨g, rfl, hcap⟩ := hcap
  have hsizes : ∀ s ∈ outs, s.size ≤ 1000000 := by
   intro s hs
   obtain ⟨k, hk⟩ := List.getElem?_of_mem hs
   obtain ⟨hkl, -⟩ := List.getElem?_eq_some_iff.1 hk
   exact baseW_size (hout k _ s (List.getElem?_eq_getElem (by omega)) hk)
  have hjl : (joinB (outs.map bl)).length ≤ 7 * 1000001 := by
   have h1 := joinB_len (outs.map bl) 1000000 (by
    intro p hp
    obtain ⟨s, hs, rfl⟩ := List.mem_map.1 hp
    rw [bl_length]; exact hsizes s hs)
   rw [List.length_map] at h1
   exact Nat.le_trans h1 (Nat.mul_le_mul_right _ (by omega))
  have hjb : (⟨(Lib.join (outs.map (·.data.toList)) [32]).toArray⟩ : ByteArray) = bs (joinB (outs.map bl)) := by
   unfold bs
   rw [joinB_lib]; rfl
  have hgl : g < W.heap.size := by
   obtain ⟨b2, o2, e, hb, -⟩ := hra (by simp [strs]; omega)
   cases e; exact hb
  have HJ := Lib.hid (Tryz.strings_Join g 0 rc outs ⟨#[32]⟩ W (by
    intro j x hx
    obtain ⟨b2, o2, e, -, hc⟩ := hra (by simp [strs]; omega)
    cases e
    exact hc j _ (by simp [strs, hx])) hgl (by omega) hcap (by
    show (Lib.join (outs.map bl) [32]).length ≤ _
    rw [joinB_lib]; omega))
  rw [show ((⟨#[32]⟩ : ByteArray).data.toList) = [32] from rfl, hjb] at HJ
  have HK2 := Lib.hid hK
  have Hout := Lib.hid hout
  have HS := Lib.hid hS
  have Hol := Lib.hid hol
  have hDW : D < W.heap.size := (Array.getElem?_eq_some_iff.1 hK).1
  have hrun : KeyRun (BaseW b i) (wordsOf (bl text)) outs 0 := by
   refine .inl ⟨rfl, by omega, fun k wd t hwd ht => ?_⟩
   rw [← hS, List.getElem?_map] at hwd
   cases hy : ys[k]? with
   | none => rw [hy] at hwd; cases hwd
   | some y => rw [hy] at hwd; cases hwd; exact hout k y t hy ht
  have HR := Lib.hid hrun
  obtain ⟨J, hJ⟩ : ∃ J, joinB (outs.map bl) = J := ⟨_, rfl⟩
  obtain ⟨t6, ht6⟩ : ∃ t6, bs J = t6 := ⟨_, rfl⟩
  rw [hJ, ht6] at HJ
  have hbl6 : bl t6 = J := by rw [← ht6, bl_bs]
  have hsz6 : t6.size = J.length := by rw [← hbl6, bl_length]
  rw [hJ] at hjl
  have HJJ := Lib.hid hJ
  clear hra hlr hrow hK hout hS hjb hol hrun hJ ht6 hcap hgl hlys hw1 hw6
  gi_wp2
  by_cases h120 : (120 : Int) < (t6.size : Int)
  ·have Hout2 := Lib.hid (show KeyOut b lang i (bl text) (bl ⟨#[]⟩) 2 from .inr ⟨Hok.out, outs, 0, HR.out, .inr (.inl ⟨rfl, by rw [HJJ.out]; omega, rfl, rfl⟩)⟩)
   go_wp2_with (refine HJ.out.mono ?_; rintro e w6 ⟨rfl, hb6⟩; obtain ⟨-, -, r2, r3, -, hbw⟩ := HK.out w6 (hb0W.trans (hb6.mono hb0W.size)); have f2 := r2.frozen 0; have f3 := r3.frozen 0; have y2 := r2.cell 0; have y3 := r3.cell 0)
   have k2 : Blk ((w6.setCell ⟨w.heap.size + 1 + 1, 0, none⟩ (.string ⟨#[]⟩)).setCell ⟨w.heap.size + 1 + 1 + 1, 0, none⟩ (.int .i64 2)) (w.heap.size + 1 + 1) #[.string ⟨#[]⟩] 9 := (r2.set_ 0 _).far (by simp) _
   have k3 : Blk ((w6.setCell ⟨w.heap.size + 1 + 1, 0, none⟩ (.string ⟨#[]⟩)).setCell ⟨w.heap.size + 1 + 1 + 1, 0, none⟩ (.int .i64 2)) (w.heap.size + 1 + 1 + 1) #[.int .i64 2] 33 := (r3.far (by simp) _).set_ 0 _
   exact key_mark Hout2.out rfl rfl (by omega) (Nat.le_refl _) ((((keeps_below hb6).trans (KeepsOthers.setCell _ _ _)).trans (KeepsOthers.setCell _ _ _)).same D _ HK2.out rfl) k2 k3 ((hbw.setCell (by show w.heap.size ≤ w.heap.size + 1 + 1; omega) _).setCell (by show w.heap.size ≤ w.heap.size + 1 + 1 + 1; omega) _)
  ·have Hout2 := Lib.hid (show KeyOut b lang i (bl text) (bl t6) 0 from .inr ⟨Hok.out, outs, 0, HR.out, .inr (.inr ⟨rfl, by rw [HJJ.out]; omega, by rw [HJJ.out]; exact hbl6, rfl⟩)⟩)
   go_wp2_with (refine HJ.out.mono ?_; rintro e w6 ⟨rfl, hb6⟩; obtain ⟨-, -, r2, r3, -, hbw⟩ := HK.out w6 (hb0W.trans (hb6.mono hb0W.size)); have f2 := r2.frozen 0; have f3 := r3.frozen 0; have y2 := r2.cell 0; have y3 := r3.cell 0)
   have k2 : Blk ((w6.setCell ⟨w.heap.size + 1 + 1, 0, none⟩ (.string t6)).setCell ⟨w.heap.size + 1 + 1 + 1, 0, none⟩ (.int .i64 0)) (w.heap.size + 1 + 1) #[.string t6] 9 := (r2.set_ 0 _).far (by simp) _
   have k3 : Blk ((w6.setCell ⟨w.heap.size + 1 + 1, 0, none⟩ (.string t6)).setCell ⟨w.heap.size + 1 + 1 + 1, 0, none⟩ (.int .i64 0)) (w.heap.size + 1 + 1 + 1) #[.int .i64 0] 33 := (r3.far (by simp) _).set_ 0 _
   exact key_mark Hout2.out rfl rfl (by omega) (Nat.le_refl _) ((((keeps_below hb6).trans (KeepsOthers.setCell _ _ _)).trans (KeepsOthers.setCell _ _ _)).same D _ HK2.out rfl) k2 k3 ((hbw.setCell (by show w.heap.size ≤ w.heap.size + 1 + 1; omega) _).setCell (by show w.heap.size ≤ w.heap.size + 1 + 1 + 1; omega) _)
 case stop =>
  rintro D pre W hD hpre ⟨-, pre', x, s, err, h2, h3, h4, h5, h6, h7, h8⟩ hK
  gi_wp2
  refine key_mark (.inr ⟨Hok.out, [], err, .inr ⟨h3, rfl, pre'.length, bl x, s, ?_, ?_, h5⟩, .inl ⟨h3, rfl, rfl⟩⟩) rfl rfl (by omega) (Nat.le_refl _) hK h6 h7 h8
  ·obtain ⟨r, hr⟩ := hpre
   rw [← hr, h2]; simp
  ·intro j y hj hy
   obtain ⟨r, hr⟩ := hpre
   rw [← hr, h2, List.map_append, List.append_assoc, List.getElem?_append_left (by simpa using hj), List.getElem?_map] at hy
   cases hpj : pre'[j]? with
   | none => rw [hpj] at hy; cases hy
   | some z => rw [hpj] at hy; cases hy; exact h4 j z hpj
end Go.Proofs.YthachfkcgdfdfaaGreatDoor
/- Walks: what is small: gazetteerref17.Few, gazetteerref16.Few, gazetteerlaw17.few; gazetteerref17.Join. -/
namespace Go.Proofs.YthachfkcgdfdfaaGreatDoor
open Go.RowKit Classical

theorem bl_add (a b : ByteArray) : bl (a ++ b) = bl a ++ bl b := by
 unfold bl
 simp [ByteArray.data_append]
theorem size_add (a b : ByteArray) : (a ++ b).size = a.size + b.size := by
 rw [← bl_length, bl_add, List.length_append, bl_length, bl_length]
end Go.Proofs.YthachfkcgdfdfaaGreatDoor
