/- C1 · C3 -/
import Derived.Test.YtabocamjaecaaaaGreatDoorGR
import Derived.Test.YtabocamjaecaaaaGreatDoorW13
import Derived.Test.YtabocamjaecaaaaGreatDoorGT
import Derived.StillTailTactics
import Derived.Test.YtabocamjaecaaaaGreatDoorGX
import Derived.Sort.Statements
import Derived.Test.YtabocamjaecaaaaGreatDoorVS
/- Walks of compile's small functions: counting states, adding an arc, a byte of a text, the letters of a text as a set. -/
namespace Go.Proofs.YtabocamjaecaaaaGreatDoor
open Go.RowKit Classical

set_option maxRecDepth 100000 in
set_option maxHeartbeats 1000000 in
theorem next_state (cb : Nat) (c : Nat) (hc : c ≤ 1000000) (w : World) (h : Blk w cb #[.int .i64 (c : Int)] 52) :
  Calls Tryz.prog 17 #[.pointer (some ⟨cb, 0, none⟩)] w fun e w' => e = .returned (.int .i64 (c : Int)) ∧ w' = w.setCell ⟨cb, 0, none⟩ (.int .i64 ((c + 1 : Nat) : Int)) := by
 have c0 := h.cell 0
 have f0 := h.frozen 0
 simp only [List.getElem?_toArray, List.getElem?_cons_zero] at c0
 go_enter Tryz.func17, Tryz.ntmps17
 go_wp2
 go_ret
 refine ⟨ret_int (by omega), ?_⟩
 rw [show ((c + 1 : Nat) : Int) = (c : Int) + 1 from by omega]

theorem at_byte (s : ByteArray) (i : Nat) (w : World) (_hs : s.size ≤ maxLen) :
  Calls Tryz.prog 42 #[.string s, .int .i64 i] w fun e w' => e = .returned (.int .i64 (byteL (bl s) i)) ∧ w' = w := by
 unfold maxLen at _hs
 go_enter Tryz.func42, Tryz.ntmps42
 by_cases h : i < s.size
 ·have hg := Lib.hid (bl_get s i h)
  go_wp2
  go_ret
  refine ⟨ret_int ?_, rfl⟩
  rw [byteL, hg.out]
  simp [wrap64_u8]
 ·have hg : (bl s)[i]? = none := List.getElem?_eq_none (by rw [bl_length]; omega)
  have Hg := Lib.hid hg
  clear hg
  go_wp2
  go_ret
  exact ⟨ret_int (by rw [byteL, Hg.out]), rfl⟩

/-- The maker of machines: an alphabet, the counter, the states to which rules lead, the sets of letters behind rules, the map of arcs. -/
def MkIs (w : World) (mb : Nat) (A : Alph) (la sa : Option Addr) (lc sc cb : Nat) (lv av : Value) (ab : Nat) : Prop :=
 Blk w mb #[.string A.name, .slice la A.letters.length lc, .slice sa A.small.length sc, .func (.func 17) #[.pointer (some ⟨cb, 0, none⟩)] #[], lv, av, .map (some ab)] 58

set_option maxRecDepth 100000 in
set_option maxHeartbeats 1000000 in
theorem arc_any (mb ab : Nat) (cs : Array Value) (h6 : cs[6]? = some (.map (some ab))) (x : Arc) (ks : List Value) (w : World) (hm : Blk w mb cs 58) (hs : SetIs w ab OkArc ks) :
  Calls Tryz.prog 41 #[.pointer (some ⟨mb, 0, none⟩), .agg #[.int .i64 x.frm, .int .i64 x.inp, .int .i64 x.out, .int .i64 x.to]] w fun e w' => e = .returned (.tuple #[]) ∧ SetIs w' ab OkArc (addV ks (arcV x)) ∧ Chg (· = ab) w w' := by
 have c6 : w.cell? ⟨mb, 6, none⟩ = some (.map (some ab)) := (hm.cell 6).trans h6
 have hlt := hm.lt
 obtain ⟨W1, hW1⟩ : ∃ W1 : World, W1 = w.alloc (.cells #[.int .i64 x.frm, .int .i64 x.inp, .int .i64 x.out, .int .i64 x.to] 49) := ⟨_, rfl⟩
 have hs1 : SetIs W1 ab OkArc ks := by rw [hW1]; exact MapIs.alloc hs _
 have hc1 : Chg (· = ab) w W1 := by rw [hW1]; exact Chg.alloc _ _ _
 obtain ⟨w2, hrun, hs2, hg2, hz2⟩ := SetIs.put (w := W1.drew) hs1 keyArc Tryz.underlying55 (key := arcV x) ⟨x, rfl⟩
 unfold arcV at hrun
 have k6 : W1.cell? ⟨mb, 6, none⟩ = some (.map (some ab)) := by rw [hW1]; exact (World.cell?_alloc_lt _ _ _ hlt).trans c6
 have hxb : Blk W1 w.heap.size #[.int .i64 x.frm, .int .i64 x.inp, .int .i64 x.out, .int .i64 x.to] 49 := by rw [hW1]; exact Blk.new _ _ _
 have x0 : W1.cell? ⟨w.heap.size, 0, none⟩ = some (.int .i64 x.frm) := hxb.cell 0
 have x1 : W1.cell? ⟨w.heap.size, 1, none⟩ = some (.int .i64 x.inp) := hxb.cell 1
 have x2 : W1.cell? ⟨w.heap.size, 2, none⟩ = some (.int .i64 x.out) := hxb.cell 2
 have x3 : W1.cell? ⟨w.heap.size, 3, none⟩ = some (.int .i64 x.to) := hxb.cell 3
 have HW1 := Lib.hid hW1
 clear hW1
 go_enter Tryz.func41, Tryz.ntmps41
 go_wp2_with fail
 rw [← HW1.out]
 have HS2 := Lib.hid (And.intro hs2 (And.intro hg2 hc1))
 clear hs1 hs2 hg2 hc1 hz2 HW1 hxb
 refine wp_region_still_tail 5 (by kernel_rfl) (by kernel_rfl) ?_
 simp only [List.take_succ_cons, List.take_zero, List.drop_succ_cons, List.drop_zero]
 repeat still_step
 refine wpStill_nil ?_
 change wpList _ _ _ _ _ W1.drew
 go_wp2_with fail
 refine bodyPost_end (v := .tuple #[]) (by simp [results, Tryz.results41, go_sem]) rfl ?_
 obtain ⟨hs2, hg2, hc1⟩ := HS2.out
 refine ⟨rfl, hs2, (hc1.trans (Chg.drewN _ W1 1)).trans (Chg.of_grown hg2 (fun r hr => by cases hr; exact .inl rfl))⟩

/-- A set of integers. -/
def intV (x : Int) : Value := .int .i64 x
theorem mem_addI {ks : List Int} {x : Int} {w : World} {b : Nat} (h : SetIs w b OkInt (addV (ks.map intV) (intV x))) : SetIs w b OkInt ((if x ∈ ks then ks else ks ++ [x]).map intV) := by
 have hm : intV x ∈ ks.map intV ↔ x ∈ ks := by
  rw [List.mem_map]
  exact ⟨fun ⟨y, hy, e⟩ => (show y = x by simpa [intV] using e) ▸ hy, fun h => ⟨x, h, rfl⟩⟩
 unfold addV at h
 by_cases hx : x ∈ ks
 ·rw [if_pos (hm.2 hx)] at h; rw [if_pos hx]; exact h
 ·rw [if_neg (fun h => hx (hm.1 h))] at h; rw [if_neg hx, List.map_append]; exact h

/-- What 'letters' hands back: the letters of a text as a set, and the first one. -/
def LettersPost (L : List (List UInt8)) (t : List UInt8) (w : World) (e : Ending) (w' : World) : Prop :=
 ∃ (b : Nat) (ks : List Int), e = .returned (.tuple #[.map (some b), .int .i64 (firstLetter L t)]) ∧ w.heap.size ≤ b ∧ SetIs w' b OkInt (ks.map intV) ∧ (∀ x : Int, x ∈ ks ↔ x ∈ (readL L t).letters) ∧ Below w.heap.size w w'

set_option maxRecDepth 100000 in
set_option maxHeartbeats 1000000 in
theorem letters_set (A : Alph) (hv : Valid10 A) (s : ByteArray) (hs : s.size ≤ maxLen) (mb : Nat) (la sa : Option Addr) (lc sc : Nat) (cs : Array Value) (w : World) (hm : Blk w mb cs 58) (h0 : cs[0]? = some (.string A.name)) (h1 : cs[1]? = some (.slice la A.letters.length lc)) (h2 : cs[2]? = some (.slice sa A.small.length sc))
  (hA : AlphAt w w.heap.size (.agg #[.string A.name, .slice la A.letters.length lc, .slice sa A.small.length sc]) A) :
  Calls Tryz.prog 18 #[.pointer (some ⟨mb, 0, none⟩), .string s] w (LettersPost A.bls (bl s) w) := by
 have a0 : w.cell? ⟨mb, 0, none⟩ = _ := (hm.cell 0).trans h0
 have a1 : w.cell? ⟨mb, 1, none⟩ = _ := (hm.cell 1).trans h1
 have a2 : w.cell? ⟨mb, 2, none⟩ = _ := (hm.cell 2).trans h2
 have hmm := @run_makeMap Tryz.prog
 have hrd : readA A s = readL A.bls (bl s) := by rw [readA, if_pos hv]
 have hr := Read_any A _ s hs w hA
 rw [hrd] at hr
 have hle := readL_le A.bls (bl s)
 obtain ⟨R, hR⟩ : ∃ R, readL A.bls (bl s) = R := ⟨_, rfl⟩
 have hfl : firstLetter A.bls (bl s) = R.letters[0]?.getD (-1) := by rw [firstLetter, hR]
 rw [hR] at hr hle
 have HR := Lib.hid hR
 have Hfl := Lib.hid hfl
 clear hR hrd hfl
 go_enter Tryz.func18, Tryz.ntmps18
 go_wp2_with fail
 refine hr.mono ?_
 rintro e w1 ⟨v, rfl, hown, hb1⟩
 obtain ⟨a, c, rfl, hal, hra⟩ := RowAt.of_own hown
 clear hr a0 a1 a2 hown hal
 have hM0 : SetIs (w1.alloc (.map #[] 0)) w1.heap.size OkInt (([] : List Int).map intV) := SetIs.made w1 OkInt
 have hB0 : Below w1.heap.size w1 (w1.alloc (.map #[] 0)) := (Below.refl _ _).alloc (Nat.le_refl _) _
 have hHid := Lib.hid (And.intro hM0 hra)
 clear hM0 hra
 go_wp2_with fail
 obtain ⟨W2, hW2⟩ : ∃ W2 : World, W2 = w1.alloc (.map #[] 0) := ⟨_, rfl⟩
 rw [← hW2] at hB0 ⊢
 clear hmm
 go_loopw [25] (fun i wr => ∃ (k : Nat) (ks : List Int), k ≤ R.letters.length ∧ i = .int .i64 k ∧ SetIs wr w1.heap.size OkInt (ks.map intV) ∧ (∀ x : Int, x ∈ ks ↔ x ∈ R.letters.take k) ∧ Below w1.heap.size w1 wr) (fun i _ => R.letters.length - (intOf i).toNat)
 case atStart => exact ⟨0, [], Nat.zero_le _, rfl, by rw [hW2]; exact hHid.out.1, by simp, hB0⟩
 case round =>
  obtain ⟨k, ks, hk, rfl, hS, hks, hbr⟩ := hrel
  have HS := Lib.hid hS
  have Hks := Lib.hid hks
  clear hS hks
  by_cases hkl : k < R.letters.length
  ·obtain ⟨g, o, rfl, hg, hc⟩ := (hHid.out.2).nums (by omega)
   have c0 := (hbr.cell (p := ⟨g, o + k, none⟩) hg).trans (hc k hkl)
   obtain ⟨w4, hrun, hS4, hg4, hs4⟩ := SetIs.put HS.out keyInt Tryz.underlying61 (key := intV R.letters[k]) (okInt _)
   have HS4 := Lib.hid (mem_addI hS4)
   have hbr4 := hbr.grown hg4 hbr.size (fun j hj => by cases hj; exact Nat.le_refl _)
   unfold intV at hrun
   clear hc hS4 hg4 hs4
   go_wp2_with fail
   refine ⟨⟨k + 1, _, by omega, by go_num, HS4.out, fun x => ?_, hbr4⟩, by simp [intOf]; omega⟩
   rw [List.take_succ_eq_append_getElem hkl, List.mem_append, ← Hks.out]
   split
   ·rename_i h
    exact ⟨.inl, fun h' => h'.elim id (fun e => by simp at e; subst e; exact h)⟩
   ·rw [List.mem_append]
  ·obtain rfl : k = R.letters.length := by omega
   have Hks2 := Lib.hid (show ∀ x : Int, x ∈ ks ↔ x ∈ (readL A.bls (bl s)).letters from fun x => by rw [Hks.out, List.take_length, HR.out])
   have hwr := hb1.trans (hbr.mono hb1.size)
   by_cases h0 : R.letters.length = 0
   ·have d0 : ((R.letters.length : Int) == 0) = true := by simp [h0]
    have H0 := Lib.hid h0
    clear h0
    go_wp2_with fail
    go_ret2
    refine ⟨w1.heap.size, ks, ?_, hb1.size, HS.out, Hks2.out, hwr⟩
    rw [Hfl.out, List.getElem?_eq_none (by have := H0.out; omega)]; try rfl
   ·have d0 : ((R.letters.length : Int) == 0) = false := by rw [beq_eq_false_iff_ne]; omega
    have h0' : 0 < R.letters.length := by omega
    obtain ⟨g, o, rfl, hg, hc⟩ := (hHid.out.2).nums h0'
    have c0 : wr.cell? ⟨g, o, none⟩ = some (.int .i64 R.letters[0]) := (hbr.cell (p := ⟨g, o, none⟩) hg).trans (hc 0 h0')
    clear h0 hc
    go_wp2_with fail
    go_quiet (fail)
    go_wp2
    go_ret2
    refine ⟨w1.heap.size, ks, ?_, hb1.size, HS.out, Hks2.out, below_drewN' hwr _⟩
    rw [Hfl.out, List.getElem?_eq_getElem h0']; try rfl

end Go.Proofs.YtabocamjaecaaaaGreatDoor

/- Walks: the order of arcs that compile sorts by (cmp.Or, Compile's function value). -/
namespace Go.Proofs.YtabocamjaecaaaaGreatDoor
open Go.RowKit Classical

set_option maxRecDepth 100000 in
set_option maxHeartbeats 2000000 in
theorem less_any (a b : Arc) (w : World) :
  Calls Tryz.prog 21 #[.agg #[.int .i64 a.frm, .int .i64 a.inp, .int .i64 a.out, .int .i64 a.to], .agg #[.int .i64 b.frm, .int .i64 b.inp, .int .i64 b.out, .int .i64 b.to]] w
   fun e w' => e = .returned (.int .i64 (cmpA a b)) ∧ ∃ o1 o2 o3, w' = (((w.alloc o1).alloc o2).drewN 1).alloc o3 := by
 obtain ⟨W1, hW1⟩ : ∃ W1 : World, W1 = (w.alloc (.cells #[.int .i64 a.frm, .int .i64 a.inp, .int .i64 a.out, .int .i64 a.to] 49)).alloc (.cells #[.int .i64 b.frm, .int .i64 b.inp, .int .i64 b.out, .int .i64 b.to] 49) := ⟨_, rfl⟩
 have ha : Blk W1 w.heap.size #[.int .i64 a.frm, .int .i64 a.inp, .int .i64 a.out, .int .i64 a.to] 49 := by rw [hW1]; exact (Blk.new _ _ _).alloc _
 have hb : Blk W1 (w.heap.size + 1) #[.int .i64 b.frm, .int .i64 b.inp, .int .i64 b.out, .int .i64 b.to] 49 := by
  rw [hW1]; have := Blk.new (w.alloc (.cells #[.int .i64 a.frm, .int .i64 a.inp, .int .i64 a.out, .int .i64 a.to] 49)) #[.int .i64 b.frm, .int .i64 b.inp, .int .i64 b.out, .int .i64 b.to] 49; simpa using this
 have a0 := ha.cell 0
 have a1 := ha.cell 1
 have a2 := ha.cell 2
 have a3 := ha.cell 3
 have b0 := hb.cell 0
 have b1 := hb.cell 1
 have b2 := hb.cell 2
 have b3 := hb.cell 3
 simp only [List.getElem?_toArray, List.getElem?_cons_zero, List.getElem?_cons_succ] at a0 a1 a2 a3 b0 b1 b2 b3
 have HW1 := Lib.hid hW1
 clear hW1 ha hb
 go_enter Tryz.func21, Tryz.ntmps21
 go_wp2_with fail
 rw [← HW1.out]
 refine wp_region_still_tail 20 (by kernel_rfl) (by kernel_rfl) ?_
 simp only [List.take_succ_cons, List.take_zero, List.drop_succ_cons, List.drop_zero]
 repeat (first | still_step | still_call (Tryz.cmp_Compare_int _ _ _))
 refine wpStill_nil ?_
 change wpList _ _ _ _ _ W1.drew
 obtain ⟨c1, h1⟩ : ∃ z, Lib.compareInt a.frm b.frm = z := ⟨_, rfl⟩
 obtain ⟨c2, h2⟩ : ∃ z, Lib.compareInt a.inp b.inp = z := ⟨_, rfl⟩
 obtain ⟨c3, h3⟩ : ∃ z, Lib.compareInt a.out b.out = z := ⟨_, rfl⟩
 obtain ⟨c4, h4⟩ : ∃ z, Lib.compareInt a.to b.to = z := ⟨_, rfl⟩
 rw [h1, h2, h3, h4]
 have Hc := Lib.hid (show cmpA a b = orI [c1, c2, c3, c4] from by rw [cmpA, h1, h2, h3, h4])
 clear h1 h2 h3 h4 a0 a1 a2 a3 b0 b1 b2 b3
 have hrow : RowAt (W1.drew.alloc (.cells (nums [c1, c2, c3, c4]).toArray 3)) (W1.drew.heap.size + 1) (some ⟨W1.drew.heap.size, 0, none⟩) (nums [c1, c2, c3, c4]) := fun _ =>
  ⟨_, 0, rfl, by omega, fun i x hx => by rw [Nat.zero_add]; exact Box.new W1.drew (nums [c1, c2, c3, c4]) 3 i x hx⟩
 have qo := Or_any [c1, c2, c3, c4] _ 4 _ (by simp [maxLen]) _ hrow
 have HQ := Lib.hid qo
 clear qo hrow
 go_wp2_with fail
 refine HQ.out.mono ?_
 rintro e w2 ⟨rfl, hw2⟩
 have Hw2 := Lib.hid hw2
 clear hw2
 go_wp2_with fail
 go_ret
 exact ⟨ret_int Hc.out.symm, _, _, _, by rw [Hw2.out, HW1.out]; rfl⟩

end Go.Proofs.YtabocamjaecaaaaGreatDoor
