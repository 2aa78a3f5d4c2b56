/- GD · C2 -/
import Derived.Test.YthachfkcgdfdfaaGreatDoorP11
import Derived.Test.YthachfkcgdfdfaaGreatDoorP12
import Derived.StillTailTactics
import Derived.Sort.Statements
/- C1 · C3 -/
/- Walks of compile's small functions: counting states, adding an arc, a byte of a text, the letters of a text as a set. -/
namespace Go.Proofs.YthachfkcgdfdfaaGreatDoor
open Go.RowKit Classical

set_option maxRecDepth 100000 in
set_option maxHeartbeats 1000000 in
theorem next_state (cb : Nat) (c : Nat) (hc : c ≤ 1000000) (w : World) (h : Blk w cb #[.int .i64 (c : Int)] 211) :
  Calls Tryz.prog 155 #[.pointer (some ⟨cb, 0, none⟩)] w fun e w' => e = .returned (.int .i64 (c : Int)) ∧ w' = w.setCell ⟨cb, 0, none⟩ (.int .i64 ((c + 1 : Nat) : Int)) := by
 have c0 := h.cell 0
 have f0 := h.frozen 0
 simp only [List.getElem?_toArray, List.getElem?_cons_zero] at c0
 go_enter Tryz.func155, Tryz.ntmps155
 go_wp2
 go_ret
 refine ⟨ret_int (by omega), ?_⟩
 rw [show ((c + 1 : Nat) : Int) = (c : Int) + 1 from by omega]

theorem at_byte (s : ByteArray) (i : Nat) (w : World) (_hs : s.size ≤ maxLen) :
  Calls Tryz.prog 208 #[.string s, .int .i64 i] w fun e w' => e = .returned (.int .i64 (byteL (bl s) i)) ∧ w' = w := by
 unfold maxLen at _hs
 go_enter Tryz.func208, Tryz.ntmps208
 by_cases h : i < s.size
 ·have hg := Lib.hid (bl_get s i h)
  go_wp2
  go_ret
  refine ⟨ret_int ?_, rfl⟩
  rw [byteL, hg.out]
  simp [wrap64_u8]
 ·have hg : (bl s)[i]? = none := List.getElem?_eq_none (by rw [bl_length]; omega)
  have Hg := Lib.hid hg
  clear hg
  go_wp2
  go_ret
  exact ⟨ret_int (by rw [byteL, Hg.out]), rfl⟩

/-- The maker of machines: an alphabet, the counter, the states to which rules lead, the sets of letters behind rules, the map of arcs. -/
def MkIs (w : World) (mb : Nat) (A : Alph) (la sa : Option Addr) (lc sc cb : Nat) (lv av : Value) (ab : Nat) : Prop :=
 Blk w mb #[.string A.name, .slice la A.letters.length lc, .slice sa A.small.length sc, .func (.func 155) #[.pointer (some ⟨cb, 0, none⟩)] #[], lv, av, .map (some ab)] 217

set_option maxRecDepth 100000 in
set_option maxHeartbeats 1000000 in
theorem arc_any (mb ab : Nat) (cs : Array Value) (h6 : cs[6]? = some (.map (some ab))) (x : Arc) (ks : List Value) (w : World) (hm : Blk w mb cs 217) (hs : SetIs w ab OkArc ks) :
  Calls Tryz.prog 207 #[.pointer (some ⟨mb, 0, none⟩), .agg #[.int .i64 x.frm, .int .i64 x.inp, .int .i64 x.out, .int .i64 x.to]] w fun e w' => e = .returned (.tuple #[]) ∧ SetIs w' ab OkArc (addV ks (arcV x)) ∧ Chg (· = ab) w w' := by
 have c6 : w.cell? ⟨mb, 6, none⟩ = some (.map (some ab)) := (hm.cell 6).trans h6
 have hlt := hm.lt
 obtain ⟨W1, hW1⟩ : ∃ W1 : World, W1 = w.alloc (.cells #[.int .i64 x.frm, .int .i64 x.inp, .int .i64 x.out, .int .i64 x.to] 177) := ⟨_, rfl⟩
 have hs1 : SetIs W1 ab OkArc ks := by rw [hW1]; exact MapIs.alloc hs _
 have hc1 : Chg (· = ab) w W1 := by rw [hW1]; exact Chg.alloc _ _ _
 obtain ⟨w2, hrun, hs2, hg2, hz2⟩ := SetIs.put (w := W1.drew) hs1 keyArc Tryz.underlying214 (key := arcV x) ⟨x, rfl⟩
 unfold arcV at hrun
 have k6 : W1.cell? ⟨mb, 6, none⟩ = some (.map (some ab)) := by rw [hW1]; exact (World.cell?_alloc_lt _ _ _ hlt).trans c6
 have hxb : Blk W1 w.heap.size #[.int .i64 x.frm, .int .i64 x.inp, .int .i64 x.out, .int .i64 x.to] 177 := by rw [hW1]; exact Blk.new _ _ _
 have x0 : W1.cell? ⟨w.heap.size, 0, none⟩ = some (.int .i64 x.frm) := hxb.cell 0
 have x1 : W1.cell? ⟨w.heap.size, 1, none⟩ = some (.int .i64 x.inp) := hxb.cell 1
 have x2 : W1.cell? ⟨w.heap.size, 2, none⟩ = some (.int .i64 x.out) := hxb.cell 2
 have x3 : W1.cell? ⟨w.heap.size, 3, none⟩ = some (.int .i64 x.to) := hxb.cell 3
 have HW1 := Lib.hid hW1
 clear hW1
 go_enter Tryz.func207, Tryz.ntmps207
 go_wp2_with fail
 rw [← HW1.out]
 have HS2 := Lib.hid (And.intro hs2 (And.intro hg2 hc1))
 clear hs1 hs2 hg2 hc1 hz2 HW1 hxb
 refine wp_region_still_tail 5 (by kernel_rfl) (by kernel_rfl) ?_
 simp only [List.take_succ_cons, List.take_zero, List.drop_succ_cons, List.drop_zero]
 repeat still_step
 refine wpStill_nil ?_
 change wpList _ _ _ _ _ W1.drew
 go_wp2_with fail
 refine bodyPost_end (v := .tuple #[]) (by simp [results, Tryz.results207, go_sem]) rfl ?_
 obtain ⟨hs2, hg2, hc1⟩ := HS2.out
 refine ⟨rfl, hs2, (hc1.trans (Chg.drewN _ W1 1)).trans (Chg.of_grown hg2 (fun r hr => by cases hr; exact .inl rfl))⟩

/-- A set of integers. -/
def intV (x : Int) : Value := .int .i64 x
theorem mem_addI {ks : List Int} {x : Int} {w : World} {b : Nat} (h : SetIs w b OkInt (addV (ks.map intV) (intV x))) : SetIs w b OkInt ((if x ∈ ks then ks else ks ++ [x]).map intV) := by
 have hm : intV x ∈ ks.map intV ↔ x ∈ ks := by
  rw [List.mem_map]
  exact ⟨fun ⟨y, hy, e⟩ => (show y = x by simpa [intV] using e) ▸ hy, fun h => ⟨x, h, rfl⟩⟩
 unfold addV at h
 by_cases hx : x ∈ ks
 ·rw [if_pos (hm.2 hx)] at h; rw [if_pos hx]; exact h
 ·rw [if_neg (fun h => hx (hm.1 h))] at h; rw [if_neg hx, List.map_append]; exact h

/-- What 'letters' hands back: the letters of a text as a set, and the first one. -/
def LettersPost (L : List (List UInt8)) (t : List UInt8) (w : World) (e : Ending) (w' : World) : Prop :=
 ∃ (b : Nat) (ks : List Int), e = .returned (.tuple #[.map (some b), .int .i64 (firstLetter L t)]) ∧ w.heap.size ≤ b ∧ SetIs w' b OkInt (ks.map intV) ∧ (∀ x : Int, x ∈ ks ↔ x ∈ (readL L t).letters) ∧ Below w.heap.size w w'

set_option maxRecDepth 100000 in
set_option maxHeartbeats 1000000 in
theorem letters_set (A : Alph) (hv : Valid10 A) (s : ByteArray) (hs : s.size ≤ maxLen) (mb : Nat) (la sa : Option Addr) (lc sc : Nat) (cs : Array Value) (w : World) (hm : Blk w mb cs 217) (h0 : cs[0]? = some (.string A.name)) (h1 : cs[1]? = some (.slice la A.letters.length lc)) (h2 : cs[2]? = some (.slice sa A.small.length sc))
  (hA : AlphAt w w.heap.size (.agg #[.string A.name, .slice la A.letters.length lc, .slice sa A.small.length sc]) A) :
  Calls Tryz.prog 156 #[.pointer (some ⟨mb, 0, none⟩), .string s] w (LettersPost A.bls (bl s) w) := by
 have a0 : w.cell? ⟨mb, 0, none⟩ = _ := (hm.cell 0).trans h0
 have a1 : w.cell? ⟨mb, 1, none⟩ = _ := (hm.cell 1).trans h1
 have a2 : w.cell? ⟨mb, 2, none⟩ = _ := (hm.cell 2).trans h2
 have hmm := @run_makeMap Tryz.prog
 have hrd : readA A s = readL A.bls (bl s) := by rw [readA, if_pos hv]
 have hr := Read_any A _ s hs w hA
 rw [hrd] at hr
 have hle := readL_le A.bls (bl s)
 obtain ⟨R, hR⟩ : ∃ R, readL A.bls (bl s) = R := ⟨_, rfl⟩
 have hfl : firstLetter A.bls (bl s) = R.letters[0]?.getD (-1) := by rw [firstLetter, hR]
 rw [hR] at hr hle
 have HR := Lib.hid hR
 have Hfl := Lib.hid hfl
 clear hR hrd hfl
 go_enter Tryz.func156, Tryz.ntmps156
 go_wp2_with fail
 refine hr.mono ?_
 rintro e w1 ⟨v, rfl, hown, hb1⟩
 obtain ⟨a, c, rfl, hal, hra⟩ := RowAt.of_own hown
 clear hr a0 a1 a2 hown hal
 have hM0 : SetIs (w1.alloc (.map #[] 0)) w1.heap.size OkInt (([] : List Int).map intV) := SetIs.made w1 OkInt
 have hB0 : Below w1.heap.size w1 (w1.alloc (.map #[] 0)) := (Below.refl _ _).alloc (Nat.le_refl _) _
 have hHid := Lib.hid (And.intro hM0 hra)
 clear hM0 hra
 go_wp2_with fail
 obtain ⟨W2, hW2⟩ : ∃ W2 : World, W2 = w1.alloc (.map #[] 0) := ⟨_, rfl⟩
 rw [← hW2] at hB0 ⊢
 clear hmm
 go_loopw [25] (fun i wr => ∃ (k : Nat) (ks : List Int), k ≤ R.letters.length ∧ i = .int .i64 k ∧ SetIs wr w1.heap.size OkInt (ks.map intV) ∧ (∀ x : Int, x ∈ ks ↔ x ∈ R.letters.take k) ∧ Below w1.heap.size w1 wr) (fun i _ => R.letters.length - (intOf i).toNat)
 case atStart => exact ⟨0, [], Nat.zero_le _, rfl, by rw [hW2]; exact hHid.out.1, by simp, hB0⟩
 case round =>
  obtain ⟨k, ks, hk, rfl, hS, hks, hbr⟩ := hrel
  have HS := Lib.hid hS
  have Hks := Lib.hid hks
  clear hS hks
  by_cases hkl : k < R.letters.length
  ·obtain ⟨g, o, rfl, hg, hc⟩ := (hHid.out.2).nums (by omega)
   have c0 := (hbr.cell (p := ⟨g, o + k, none⟩) hg).trans (hc k hkl)
   obtain ⟨w4, hrun, hS4, hg4, hs4⟩ := SetIs.put HS.out keyInt Tryz.underlying218 (key := intV R.letters[k]) (okInt _)
   have HS4 := Lib.hid (mem_addI hS4)
   have hbr4 := hbr.grown hg4 hbr.size (fun j hj => by cases hj; exact Nat.le_refl _)
   unfold intV at hrun
   clear hc hS4 hg4 hs4
   go_wp2_with fail
   refine ⟨⟨k + 1, _, by omega, by go_num, HS4.out, fun x => ?_, hbr4⟩, by simp [intOf]; omega⟩
   rw [List.take_succ_eq_append_getElem hkl, List.mem_append, ← Hks.out]
   split
   ·rename_i h
    exact ⟨.inl, fun h' => h'.elim id (fun e => by simp at e; subst e; exact h)⟩
   ·rw [List.mem_append]
  ·obtain rfl : k = R.letters.length := by omega
   have Hks2 := Lib.hid (show ∀ x : Int, x ∈ ks ↔ x ∈ (readL A.bls (bl s)).letters from fun x => by rw [Hks.out, List.take_length, HR.out])
   have hwr := hb1.trans (hbr.mono hb1.size)
   by_cases h0 : R.letters.length = 0
   ·have d0 : ((R.letters.length : Int) == 0) = true := by simp [h0]
    have H0 := Lib.hid h0
    clear h0
    go_wp2_with fail
    go_ret2
    refine ⟨w1.heap.size, ks, ?_, hb1.size, HS.out, Hks2.out, hwr⟩
    rw [Hfl.out, List.getElem?_eq_none (by have := H0.out; omega)]; try rfl
   ·have d0 : ((R.letters.length : Int) == 0) = false := by rw [beq_eq_false_iff_ne]; omega
    have h0' : 0 < R.letters.length := by omega
    obtain ⟨g, o, rfl, hg, hc⟩ := (hHid.out.2).nums h0'
    have c0 : wr.cell? ⟨g, o, none⟩ = some (.int .i64 R.letters[0]) := (hbr.cell (p := ⟨g, o, none⟩) hg).trans (hc 0 h0')
    clear h0 hc
    go_wp2_with fail
    go_quiet (fail)
    go_wp2
    go_ret2
    refine ⟨w1.heap.size, ks, ?_, hb1.size, HS.out, Hks2.out, below_drewN' hwr _⟩
    rw [Hfl.out, List.getElem?_eq_getElem h0']; try rfl

end Go.Proofs.YthachfkcgdfdfaaGreatDoor

/- Walks: the order of arcs that compile sorts by (cmp.Or, Compile's function value). -/
namespace Go.Proofs.YthachfkcgdfdfaaGreatDoor
open Go.RowKit Classical

set_option maxRecDepth 100000 in
set_option maxHeartbeats 2000000 in
theorem less_any (a b : Arc) (w : World) :
  Calls Tryz.prog 159 #[.agg #[.int .i64 a.frm, .int .i64 a.inp, .int .i64 a.out, .int .i64 a.to], .agg #[.int .i64 b.frm, .int .i64 b.inp, .int .i64 b.out, .int .i64 b.to]] w
   fun e w' => e = .returned (.int .i64 (cmpA a b)) ∧ ∃ o1 o2 o3, w' = (((w.alloc o1).alloc o2).drewN 1).alloc o3 := by
 obtain ⟨W1, hW1⟩ : ∃ W1 : World, W1 = (w.alloc (.cells #[.int .i64 a.frm, .int .i64 a.inp, .int .i64 a.out, .int .i64 a.to] 177)).alloc (.cells #[.int .i64 b.frm, .int .i64 b.inp, .int .i64 b.out, .int .i64 b.to] 177) := ⟨_, rfl⟩
 have ha : Blk W1 w.heap.size #[.int .i64 a.frm, .int .i64 a.inp, .int .i64 a.out, .int .i64 a.to] 177 := by rw [hW1]; exact (Blk.new _ _ _).alloc _
 have hb : Blk W1 (w.heap.size + 1) #[.int .i64 b.frm, .int .i64 b.inp, .int .i64 b.out, .int .i64 b.to] 177 := by
  rw [hW1]; have := Blk.new (w.alloc (.cells #[.int .i64 a.frm, .int .i64 a.inp, .int .i64 a.out, .int .i64 a.to] 177)) #[.int .i64 b.frm, .int .i64 b.inp, .int .i64 b.out, .int .i64 b.to] 177; simpa using this
 have a0 := ha.cell 0
 have a1 := ha.cell 1
 have a2 := ha.cell 2
 have a3 := ha.cell 3
 have b0 := hb.cell 0
 have b1 := hb.cell 1
 have b2 := hb.cell 2
 have b3 := hb.cell 3
 simp only [List.getElem?_toArray, List.getElem?_cons_zero, List.getElem?_cons_succ] at a0 a1 a2 a3 b0 b1 b2 b3
 have HW1 := Lib.hid hW1
 clear hW1 ha hb
 go_enter Tryz.func159, Tryz.ntmps159
 go_wp2_with fail
 rw [← HW1.out]
 refine wp_region_still_tail 20 (by kernel_rfl) (by kernel_rfl) ?_
 simp only [List.take_succ_cons, List.take_zero, List.drop_succ_cons, List.drop_zero]
 repeat (first | still_step | still_call (Tryz.cmp_Compare_int _ _ _))
 refine wpStill_nil ?_
 change wpList _ _ _ _ _ W1.drew
 obtain ⟨c1, h1⟩ : ∃ z, Lib.compareInt a.frm b.frm = z := ⟨_, rfl⟩
 obtain ⟨c2, h2⟩ : ∃ z, Lib.compareInt a.inp b.inp = z := ⟨_, rfl⟩
 obtain ⟨c3, h3⟩ : ∃ z, Lib.compareInt a.out b.out = z := ⟨_, rfl⟩
 obtain ⟨c4, h4⟩ : ∃ z, Lib.compareInt a.to b.to = z := ⟨_, rfl⟩
 rw [h1, h2, h3, h4]
 have Hc := Lib.hid (show cmpA a b = orI [c1, c2, c3, c4] from by rw [cmpA, h1, h2, h3, h4])
 clear h1 h2 h3 h4 a0 a1 a2 a3 b0 b1 b2 b3
 have hrow : RowAt (W1.drew.alloc (.cells (nums [c1, c2, c3, c4]).toArray 3)) (W1.drew.heap.size + 1) (some ⟨W1.drew.heap.size, 0, none⟩) (nums [c1, c2, c3, c4]) := fun _ =>
  ⟨_, 0, rfl, by omega, fun i x hx => by rw [Nat.zero_add]; exact Box.new W1.drew (nums [c1, c2, c3, c4]) 3 i x hx⟩
 have qo := Or_any [c1, c2, c3, c4] _ 4 _ (by simp [maxLen]) _ hrow
 have HQ := Lib.hid qo
 clear qo hrow
 go_wp2_with fail
 refine HQ.out.mono ?_
 rintro e w2 ⟨rfl, hw2⟩
 have Hw2 := Lib.hid hw2
 clear hw2
 go_wp2_with fail
 go_ret
 exact ⟨ret_int Hc.out.symm, _, _, _, by rw [Hw2.out, HW1.out]; rfl⟩

end Go.Proofs.YthachfkcgdfdfaaGreatDoor
/- Walk: a rule's arcs are added (compile's add). -/
namespace Go.Proofs.YthachfkcgdfdfaaGreatDoor
open Go.RowKit Classical

theorem Blk.ne_map {w : World} {b b' : Nat} {cs : Array Value} {t : TypeId} {Ok : Value → Prop} {l : List (Value × Value)} (h : Blk w b cs t) (h' : MapIs w b' Ok l) : b ≠ b' := by
 obtain ⟨es, clock, hb, _⟩ := h'
 intro e
 subst e
 rw [show w.heap[b]? = _ from h] at hb
 cases hb
theorem own_ne_map {w : World} {base : Nat} {e : TypeId} {size n : Nat} {v : Value} {xs : List Value} (h : w.ownsRow base e size v n xs) {b' : Nat} {Ok : Value → Prop} {l : List (Value × Value)} (h' : MapIs w b' Ok l) : v.ownBlock ≠ some b' := by
 obtain ⟨es, clock, hb, _⟩ := h'
 rcases h.2 with ⟨rfl, _⟩ | ⟨g, cap, cur, rfl, _, hh, _⟩
 ·simp [Value.ownBlock]
 ·intro he
  have : g = b' := by simpa [Value.ownBlock] using he
  subst this
  rw [hh] at hb
  cases hb
theorem Blk.ne_blk {w : World} {b b' : Nat} {cs cs' : Array Value} {t t' : TypeId} (h : Blk w b cs t) (h' : Blk w b' cs' t') (hne : t ≠ t') : b ≠ b' := by
 intro e
 subst e
 have := (show w.heap[b]? = _ from h).symm.trans h'
 injection this with this
 injection this with _ this
 exact hne this

/-- The sets of letters behind rules, and the maker's blocks, as add reads them. -/
structure MkSt (w : World) (mb cb ab base : Nat) (A : Alph) (la sa : Option Addr) (lc sc : Nat) (lv av : Value) (RL : List RulL) (leads : List Nat) (bs : List Nat) : Prop where
 maker : MkIs w mb A la sa lc sc cb lv av ab
 lv : w.ownsRow base 3 1 lv leads.length (natsV leads)
 av : w.ownsRow base 218 1 av bs.length (bs.map fun b : Nat => Value.map (some b))
 len : leads.length = RL.length
 blen : bs.length = RL.length
 sets : ∀ (k : Nat) b x, bs[k]? = some b → RL[k]? = some x → ∃ ks : List Int, SetIs w b OkInt (ks.map intV) ∧ ∀ z : Int, z ∈ ks ↔ z ∈ (readL A.bls x.nxt).letters
 apart : ∀ b ∈ bs, b ≠ ab
theorem MkSt.chg {w w' : World} {mb cb ab base : Nat} {A : Alph} {la sa : Option Addr} {lc sc : Nat} {lv av : Value} {RL : List RulL} {leads bs : List Nat} {cc : Array Value} {arcs : List Value} {S : Nat → Prop}
  (h : MkSt w mb cb ab base A la sa lc sc lv av RL leads bs) (hcb : Blk w cb cc 211) (hab : SetIs w ab OkArc arcs) (hc : Chg S w w') (hS : ∀ k, S k → k = cb ∨ k = ab ∨ w.heap.size ≤ k) : MkSt w' mb cb ab base A la sa lc sc lv av RL leads bs := by
 have hcl := hcb.lt
 have hal := MapIs.lt hab
 refine ⟨Blk.chg h.maker hc (fun s => ?_), own_chg h.lv hc (fun g hg s => ?_), own_chg h.av hc (fun g hg s => ?_), h.len, h.blen, fun k b x hb hx => ?_, h.apart⟩
 ·rcases hS _ s with e | e | e
  ·exact Blk.ne_blk h.maker hcb (by decide) e
  ·exact Blk.ne_map h.maker hab e
  ·have := Blk.lt h.maker; omega
 ·rcases hS _ s with e | e | e
  ·exact hcb.own_ne h.lv (by decide) (by rw [hg, e])
  ·exact own_ne_map h.lv hab (by rw [hg, e])
  ·have := (h.lv.lt g hg).2; omega
 ·rcases hS _ s with e | e | e
  ·exact hcb.own_ne h.av (by decide) (by rw [hg, e])
  ·exact own_ne_map h.av hab (by rw [hg, e])
  ·have := (h.av.lt g hg).2; omega
 ·obtain ⟨ks, h1, h2⟩ := h.sets k b x hb hx
  refine ⟨ks, MapIs.chg h1 hc (fun s => ?_), h2⟩
  rcases hS _ s with e | e | e
  ·exact Blk.ne_map hcb h1 e.symm
  ·exact h.apart b (List.mem_of_getElem? hb) e
  ·have := MapIs.lt h1; omega

theorem arcV_mem {l : List Arc} {x : Arc} : arcV x ∈ l.map arcV ↔ x ∈ l := by
 rw [List.mem_map]
 exact ⟨fun ⟨y, hy, e⟩ => arcV_inj e ▸ hy, fun h => ⟨x, h, rfl⟩⟩
noncomputable def addA (l : List Arc) (x : Arc) : List Arc := if x ∈ l then l else l ++ [x]
theorem mem_addA {l : List Arc} {x y : Arc} : y ∈ addA l x ↔ y ∈ l ∨ y = x := by
 unfold addA
 split
 ·rename_i h
  exact ⟨.inl, fun h' => h'.elim id (fun e => e ▸ h)⟩
 ·simp
theorem addV_arc (l : List Arc) (x : Arc) : addV (l.map arcV) (arcV x) = (addA l x).map arcV := by
 unfold addV addA
 by_cases h : x ∈ l
 ·rw [if_pos (arcV_mem.2 h), if_pos h]
 ·rw [if_neg (fun h' => h (arcV_mem.1 h')), if_neg h, List.map_append]; rfl

/-- The ways of a rule over its states, up to place k. -/
def wayTo (c k : Nat) : List Nat := (List.range k).map fun j => if j = 0 then 0 else c + j - 1
theorem wayTo_length (c k : Nat) : (wayTo c k).length = k := by simp [wayTo]
theorem wayTo_snoc (c k : Nat) (hk : 1 ≤ k) : wayTo c (k + 1) = wayTo c k ++ [c + k - 1] := by
 unfold wayTo
 rw [List.range_succ, List.map_append]
 simp
 omega
theorem way_get (c n lead k : Nat) (hk : k ≤ n) (h1 : 1 ≤ k) : (natsV (wayTo c n ++ [lead]))[k]? = some (.int .i64 (if k = n then (lead : Int) else (c : Int) + (k : Int) - 1)) := by
 rcases Nat.lt_or_ge k n with h | h
 ·rw [if_neg (by omega), natsV_get _ k (c + k - 1)]
  ·congr 2; omega
  ·rw [List.getElem?_append_left (by rw [wayTo_length]; exact h), wayTo, List.getElem?_map, List.getElem?_range h]
   simp; omega
 ·obtain rfl : k = n := by omega
  rw [if_pos rfl, natsV_get _ k lead]
  rw [List.getElem?_append_right (by rw [wayTo_length]; exact Nat.le_refl _), wayTo_length, Nat.sub_self]; rfl

theorem mem_ruleArcs {x : RulL} {base lead : Nat} {st : List Nat} {y : Arc} : y ∈ ruleArcs x base lead st ↔ (∃ s : Nat, s ∈ st ∧ y = arcAt x base lead 0 (s : Int)) ∨ ∃ j : Nat, j + 1 < x.n ∧ y = arcAt x base lead (j + 1) ((base : Int) + (j : Int)) := by
 unfold ruleArcs
 rw [List.mem_append, List.mem_map, List.mem_map]
 constructor
 ·rintro (⟨s, hs, e⟩ | ⟨j, hj, e⟩)
  ·exact .inl ⟨s, hs, e.symm⟩
  ·exact .inr ⟨j, by have := List.mem_range.1 hj; omega, e.symm⟩
 ·rintro (⟨s, hs, e⟩ | ⟨j, hj, e⟩)
  ·exact .inl ⟨s, hs, e.symm⟩
  ·exact .inr ⟨j, List.mem_range.2 (by omega), e.symm⟩
theorem ownBlock_eq {g n c r : Nat} (h : (Value.slice (some ⟨g, 0, none⟩) n c).ownBlock = some r) : g = r := by simpa [Value.ownBlock] using h
theorem at_byte0 (s : ByteArray) (w : World) (hs : s.size ≤ maxLen) :
  Calls Tryz.prog 208 #[.string s, .int .i64 0] w fun e w' => e = .returned (.int .i64 (byteL (bl s) 0)) ∧ w' = w := at_byte s 0 w hs
def AllNew (w : World) (cb ab : Nat) (k : Nat) : Prop := k = cb ∨ k = ab ∨ w.heap.size ≤ k
/-- What add leaves. -/
def AddPost (w : World) (cb ab : Nat) (A : Alph) (RL : List RulL) (leads : List Nat) (x : RulL) (c lead : Nat) (arcs : List Arc) (e : Ending) (w' : World) : Prop :=
 e = .returned (.tuple #[]) ∧ (∃ arcs' : List Arc, SetIs w' ab OkArc (arcs'.map arcV) ∧ ∀ y, y ∈ arcs' ↔ y ∈ arcs ∨ y ∈ ruleArcs x c lead (0 :: 1 :: startsIn A.bls x RL leads)) ∧
  Blk w' cb #[.int .i64 ((c + x.n - 1 : Nat) : Int)] 211 ∧ Chg (fun k => k = cb ∨ k = ab) w w'

set_option maxRecDepth 100000 in
set_option maxHeartbeats 4000000 in
theorem add_any (mb cb ab base : Nat) (A : Alph) (hv : Valid10 A) (la sa : Option Addr) (lc sc : Nat) (lv av : Value) (RL : List RulL) (hRL : RL.length ≤ 80) (leads bs : List Nat) (c : Nat) (hc : c ≤ 10000) (arcs : List Arc) (i : Nat) (lead : Nat) (hi : leads[i]? = some lead) (_hle : lead ≤ 10000)
  (x : Rul) (hx : x.src.size ≤ maxLen ∧ x.dst.size ≤ maxLen ∧ x.nxt.size ≤ maxLen) (hn1 : 1 ≤ x.l.n) (hn9 : x.l.n ≤ 9) (w : World) (h : MkSt w mb cb ab base A la sa lc sc lv av RL leads bs) (hcb : Blk w cb #[.int .i64 (c : Int)] 211)
  (hab : SetIs w ab OkArc (arcs.map arcV)) (hbase : base ≤ w.heap.size ∧ base ≤ cb ∧ base ≤ ab) (hA : AlphAt w base (.agg #[.string A.name, .slice la A.letters.length lc, .slice sa A.small.length sc]) A) :
  Calls Tryz.prog 157 #[.pointer (some ⟨mb, 0, none⟩), .int .i64 i, .agg #[.string x.src, .string x.dst, .string x.nxt, .bool x.fin]] w (AddPost w cb ab A RL leads x.l c lead arcs) := by
 obtain ⟨i0, hii, hz0, hz1, hz2⟩ := info_parts info_int
 obtain ⟨lva, lvc, rfl, _, _⟩ := RowAt.of_own h.lv
 obtain ⟨ava, avc, rfl, _, _⟩ := RowAt.of_own h.av
 obtain ⟨n, hn⟩ : ∃ n, x.l.n = n := ⟨_, rfl⟩
 have hnm : (max (x.src.size : Int) (x.dst.size : Int)) = (n : Int) := by
  rw [← hn, RulL.n, show x.l.src = bl x.src from rfl, show x.l.dst = bl x.dst from rfl, bl_length, bl_length]; omega
 have hmk := fun W => run_make_rowN (P := Tryz.prog) 85 3 i0 (.int .i64 0) Tryz.underlying85 hii hz0 .i64 .i64 n n (Nat.le_refl _) (by rw [hz2]; omega) (by omega) W
 have Hn := Lib.hid hn
 rw [hn] at hn1 hn9
 clear hn
 obtain ⟨W0, hW0⟩ : ∃ W0 : World, W0 = w.alloc (.cells #[.string x.src, .string x.dst, .string x.nxt, .bool x.fin] 103) := ⟨_, rfl⟩
 go_enter Tryz.func157, Tryz.ntmps157
 go_wp2_with fail
 have hb0 : Below w.heap.size w W0 := by rw [hW0]; exact (Below.refl _ _).alloc (Nat.le_refl _) _
 have hs0 : W0.heap.size = w.heap.size + 1 := by rw [hW0]; simp
 have hr0 : Blk W0 w.heap.size #[.string x.src, .string x.dst, .string x.nxt, .bool x.fin] 103 := by rw [hW0]; exact Blk.new _ _ _
 rw [← hW0]
 clear hmk hW0
 generalize hW1 : (W0.alloc _) = W1
 have hb1 : Below W0.heap.size W0 W1 := by rw [← hW1]; exact (Below.refl _ _).alloc (Nat.le_refl _) _
 have hs1 : W1.heap.size = w.heap.size + 2 := by rw [← hW1]; simp [hs0]
 have hown1 : W1.ownsRow W0.heap.size 3 1 (.slice (some ⟨w.heap.size + 1, 0, none⟩) n n) n (natsV (wayTo c 1 ++ List.replicate (n - 1) 0)) := by
  have := World.ownsRow_lit (base := W0.heap.size) (e := 3) (size := 1) W0 (madeCells #[.int .i64 0] (n * 1)) n (Nat.le_refl _) (by unfold maxLen; omega) (by simp [madeCells])
  rw [← hW1]
  have e : (madeCells #[.int .i64 0] (n * 1)).toList = natsV (wayTo c 1 ++ List.replicate (n - 1) 0) := by
   rw [madeCells_one]
   obtain ⟨m, rfl⟩ : ∃ m, n = m + 1 := ⟨n - 1, by omega⟩
   simp [natsV, wayTo, List.replicate_succ]
  rw [e] at this
  rw [hs0] at this ⊢
  simpa only [Nat.mul_one] using this
 have hr1 : Blk W1 w.heap.size #[.string x.src, .string x.dst, .string x.nxt, .bool x.fin] 103 := hr0.below hb1 (by omega)
 have hbW1 := hb0.trans (hb1.mono (by omega))
 have hc1 : Chg (fun k => k = cb ∨ k = ab) w W1 := Chg.of_below _ hbW1
 have hcl := hcb.lt
 have hal := MapIs.lt hab
 have hst1 := h.chg hcb hab hc1 (fun k hk => hk.elim .inl (fun e => .inr (.inl e)))
 have hcb1 : Blk W1 cb #[.int .i64 ((c + 1 - 1 : Nat) : Int)] 211 := hcb.below hbW1 hcl
 have hab1 : SetIs W1 ab OkArc (arcs.map arcV) := MapIs.below hab hbW1 hal
 have HH1 := Lib.hid (And.intro hown1 (And.intro hr1 (And.intro hst1 (And.intro hcb1 hab1))))
 clear hW1 hown1 hr1 hst1 hcb1 hab1 hr0 hb1 hb0
 have hgne : w.heap.size + 1 ≠ cb ∧ w.heap.size + 1 ≠ ab ∧ w.heap.size ≠ cb ∧ w.heap.size ≠ ab := by omega
 have HH := Lib.hid (fun (wr : World) (hcw : Chg (AllNew w cb ab) w wr) => h.chg hcb hab hcw (fun k hk => hk))
 go_loopw [8] (fun i8 wr => ∃ k : Nat, 1 ≤ k ∧ k ≤ n ∧ i8 = .int .i64 k ∧ wr.ownsRow W0.heap.size 3 1 (.slice (some ⟨w.heap.size + 1, 0, none⟩) n n) n (natsV (wayTo c k ++ List.replicate (n - k) 0)) ∧
  Blk wr cb #[.int .i64 ((c + k - 1 : Nat) : Int)] 211 ∧ Blk wr w.heap.size #[.string x.src, .string x.dst, .string x.nxt, .bool x.fin] 103 ∧ SetIs wr ab OkArc (arcs.map arcV) ∧ Chg (AllNew w cb ab) w wr) (fun i8 _ => n - (intOf i8).toNat)
 case atStart => exact ⟨1, Nat.le_refl _, hn1, rfl, HH1.out.1, HH1.out.2.2.2.1, HH1.out.2.1, HH1.out.2.2.2.2, hc1.mono (fun k hk => hk.elim .inl (fun e => .inr (.inl e)))⟩
 case round =>
  obtain ⟨k, hk1, hkn, rfl, hown, hcbr, hrr, habr, hcr⟩ := hrel
  have Hown := Lib.hid hown
  have Hcb := Lib.hid hcbr
  have Hrr := Lib.hid hrr
  have Hab := Lib.hid habr
  clear hown hcbr hrr habr
  have hst := HH.out wr hcr
  have hszr := hcr.size
  by_cases hkl : k < n
  ·have c3 : wr.cell? ⟨mb, 3, none⟩ = some (.func (.func 155) #[.pointer (some ⟨cb, 0, none⟩)] #[]) := Blk.cell hst.maker 3
   have q1 := next_state cb (c + k - 1) (by omega) wr Hcb.out
   have hwl : (wayTo c k).length = k := wayTo_length c k
   have z0 : wr.cell? ⟨w.heap.size + 1, k, none⟩ = some (.int .i64 0) := by
    rw [Hown.out.cellAt k (by omega)]
    refine natsV_get _ _ 0 ?_
    rw [List.getElem?_append_right (by omega), hwl, Nat.sub_self, List.getElem?_replicate, if_pos (by omega)]
   have f0 := Hown.out.frozenAt k
   clear hst hwl
   go_wp2_with fail
   refine q1.mono ?_
   rintro e w2 ⟨rfl, hw2⟩
   have hown2 : w2.ownsRow W0.heap.size 3 1 (.slice (some ⟨w.heap.size + 1, 0, none⟩) n n) n (natsV (wayTo c k ++ List.replicate (n - k) 0)) := by
    rw [hw2]; exact own_setCell Hown.out (fun e => by simp [Value.ownBlock] at e; omega) _
   have hcb2 : Blk w2 cb #[.int .i64 ((c + (k + 1) - 1 : Nat) : Int)] 211 := by
    rw [hw2]; have := Hcb.out.set_ 0 (.int .i64 ((c + k - 1 + 1 : Nat) : Int)); rw [show c + (k + 1) - 1 = c + k - 1 + 1 from by omega]; exact this
   have hrr2 : Blk w2 w.heap.size #[.string x.src, .string x.dst, .string x.nxt, .bool x.fin] 103 := by rw [hw2]; exact Hrr.out.far (p := ⟨cb, 0, none⟩) (by show w.heap.size ≠ cb; omega) _
   have hab2 : SetIs w2 ab OkArc (arcs.map arcV) := by rw [hw2]; exact MapIs.setCell Hab.out (fun e => Blk.ne_map Hcb.out Hab.out e) _
   have hcr2 : Chg (AllNew w cb ab) w w2 := by rw [hw2]; exact hcr.trans (Chg.setCell wr (.inl (.inl rfl)) _)
   have z1 : w2.cell? ⟨w.heap.size + 1, k, none⟩ = some (.int .i64 0) := by
    rw [hown2.cellAt k (by omega)]
    refine natsV_get _ _ 0 ?_
    rw [List.getElem?_append_right (by rw [wayTo_length]; omega), wayTo_length, Nat.sub_self, List.getElem?_replicate, if_pos (by omega)]
   have f1 := hown2.frozenAt k
   have HX := Lib.hid (And.intro hown2 (And.intro hcb2 (And.intro hrr2 (And.intro hab2 hcr2))))
   clear hown2 hcb2 hrr2 hab2 hcr2 hw2 z0 f0 c3 q1
   go_wp2_with fail
   obtain ⟨hown2, hcb2, hrr2, hab2, hcr2⟩ := HX.out
   refine ⟨⟨k + 1, by omega, by omega, by go_num, ?_, hcb2.far (by show cb ≠ w.heap.size + 1; omega) _, hrr2.far (by show w.heap.size ≠ w.heap.size + 1; omega) _, MapIs.setCell hab2 (by show w.heap.size + 1 ≠ ab; omega) _, hcr2.trans (Chg.setCell w2 (.inl (.inr (.inr (by show w.heap.size ≤ w.heap.size + 1; omega)))) _)⟩, by simp [intOf]; omega⟩
   have := (hown2.stored k (.int .i64 ((c + k - 1 : Nat) : Int))).1
   rw [natsV_set (wayTo c k) n k (c + k - 1) (wayTo_length c k) hkl, ← wayTo_snoc c k hk1] at this
   exact this
  ·obtain rfl : n = k := by omega
   have c4 : wr.cell? ⟨mb, 4, none⟩ = some (.slice lva leads.length lvc) := Blk.cell hst.maker 4
   have hil : i < leads.length := (List.getElem?_eq_some_iff.1 hi).1
   have hlen := hst.len
   obtain ⟨a', n', hav, _, hrow⟩ := RowAt.of_own hst.lv
   obtain ⟨lb, lo, hla, _, hcl4⟩ := hrow (by simp [natsV]; omega)
   have hlva : lva = some ⟨lb, lo, none⟩ := by injection hav with e; rw [e, hla]
   subst hlva
   have cl : wr.cell? ⟨lb, lo + i, none⟩ = some (.int .i64 (lead : Int)) := hcl4 i _ (natsV_get _ _ _ hi)
   have hlen2 : leads.length ≤ 80 := by omega
   clear hav hla hcl4 hrow hst
   have hown := Hown.out
   rw [Nat.sub_self, List.replicate_zero, List.append_nil] at hown
   go_wp2_with (at_builtin; refine wpList_append_own _ rfl _ _ 85 rfl W0.heap.size 3 i0 (.int .i64 0) 1 8 Tryz.underlying85 hii hz0 hz1 hz2 rfl (by decide) _ _ _ rfl (hown.alloc _) ⟨wr.heap.size, 0, none⟩ 1 1 [.int .i64 (lead : Int)] rfl rfl ?c1 ?c2 ?c3 ?c4 ?c5 ?_)
   case c1 => exact cells_new wr [.int .i64 (lead : Int)] 3
   case c2 => simp [Value.oneCell']
   case c3 => unfold maxLen; omega
   case c4 => omega
   case c5 => simp; omega
   intro v' w3 hown3 hgrow3 _
   obtain ⟨wg, wcap, rfl⟩ := own_succ hown3
   have hcr3 : Chg (AllNew w cb ab) w w3 := (hcr.trans (Chg.alloc _ wr _)).trans (Chg.of_grown hgrow3 (fun r hr => .inl (.inr (.inr (by have := ownBlock_eq hr; omega)))))
   have hcb3 : Blk w3 cb #[.int .i64 ((c + n - 1 : Nat) : Int)] 211 := (Hcb.out.alloc _).grown hgrow3 (fun e => by simp [Value.ownBlock] at e; omega)
   have hrr3 : Blk w3 w.heap.size #[.string x.src, .string x.dst, .string x.nxt, .bool x.fin] 103 := (Hrr.out.alloc _).grown hgrow3 (fun e => by simp [Value.ownBlock] at e)
   have hab3 : SetIs w3 ab OkArc (arcs.map arcV) := MapIs.grown (MapIs.alloc Hab.out _) hgrow3 (fun e => by simp [Value.ownBlock] at e; omega)
   have hown3' : w3.ownsRow W0.heap.size 3 1 (.slice (some ⟨wg, 0, none⟩) (n + 1) wcap) (n + 1) (natsV (wayTo c n ++ [lead])) := by
    rw [natsV_append, hs0]; simpa [natsV] using hown3
   have HX := Lib.hid (And.intro hown3' (And.intro hcb3 (And.intro hrr3 (And.intro hab3 hcr3))))
   clear hown3 hcb3 hrr3 hab3 hcr3 hgrow3 hown3' c4 cl hown Hown Hcb Hrr Hab hcr hszr
   go_wp2_with fail
   have hg3 : w.heap.size < wg + 1 ∧ w.heap.size + 1 ≤ wg := by have := (HX.out.1.lt wg rfl).1; omega
   have hszw : w.heap.size ≤ w3.heap.size := HX.out.2.2.2.2.size
   go_loopw [9] (fun i9 wr => ∃ (m : Nat) (arcs' : List Arc), 1 ≤ m ∧ m ≤ n ∧ i9 = .int .i64 m ∧ SetIs wr ab OkArc (arcs'.map arcV) ∧ (∀ y, y ∈ arcs' ↔ y ∈ arcs ∨ ∃ j : Nat, j + 1 < m ∧ y = arcAt x.l c lead (j + 1) ((c : Int) + (j : Int))) ∧ Chg (· = ab) w3 wr) (fun i9 _ => n - (intOf i9).toNat)
   case atStart => exact ⟨1, arcs, Nat.le_refl _, hn1, rfl, HX.out.2.2.2.1, fun y => ⟨.inl, fun h => h.elim id (fun ⟨j, hj, _⟩ => by omega)⟩, Chg.refl _ _⟩
   case round =>
    obtain ⟨m, arcs', hm1, hmn, rfl, hSr, harc, hcr⟩ := hrel
    have HSr := Lib.hid hSr
    have Harc := Lib.hid harc
    clear hSr harc
    obtain ⟨hown3, hcb3, hrr3, hab3, hcr3⟩ := HX.out
    have hcw : Chg (AllNew w cb ab) w wr := hcr3.trans (hcr.mono (fun k hk => .inr (.inl hk)))
    have hrr := hrr3.chg hcr (by omega)
    have hownr := own_chg hown3 hcr (fun g hg e => by simp [Value.ownBlock] at hg; omega)
    have x0 : wr.cell? ⟨w.heap.size, 0, none⟩ = some (.string x.src) := hrr.cell 0
    have x1 : wr.cell? ⟨w.heap.size, 1, none⟩ = some (.string x.dst) := hrr.cell 1
    by_cases hmlt : m < n
    ·have y0 : wr.cell? ⟨wg, m, none⟩ = some (.int .i64 ((c : Int) + (m : Int) - 1)) := by
      rw [hownr.cellAt m (by omega), way_get c n lead m (by omega) hm1, if_neg (by omega)]
     have y1 : wr.cell? ⟨wg, m + 1, none⟩ = some (.int .i64 (arcTo x.l c lead m)) := by
      rw [hownr.cellAt (m + 1) (by omega), way_get c n lead (m + 1) (by omega) (by omega), arcTo, Hn.out]
      split
      ·rfl
      ·congr 2; omega
     have hst := HH.out wr hcw
     have qa := arc_any mb ab _ rfl (arcAt x.l c lead m ((c : Int) + (m : Int) - 1)) _ wr.drew hst.maker HSr.out
     rw [addV_arc] at qa
     unfold arcAt at qa
     have hw1 : IntKind.i64.wrap ((m : Int) + 1) = (m : Int) + 1 := IntWalk.i64_in _ (by omega)
     have hw2 : (0 : Int) ≤ (m : Int) + 1 := by omega
     have hw3 : ((m : Int) + 1).toNat = m + 1 := by omega
     have hlt1 : m < n + 1 := by omega
     have hlt2 : m + 1 < n + 1 := by omega
     have hlt3 : (m : Int) < (n : Int) + 1 := by omega
     clear hst hown3 hcb3 hrr3 hab3 hcr3 hrr hownr
     go_wp2_with fail
     refine wp_region_still_tail 19 (by kernel_rfl) (by kernel_rfl) ?_
     simp only [List.take_succ_cons, List.take_zero, List.drop_succ_cons, List.drop_zero]
     repeat (first | still_step | still_call (at_byte _ _ _ hx.1) | still_call (at_byte _ _ _ hx.2.1))
     refine wpStill_nil ?_
     change wpList _ _ _ _ _ wr.drew
     have HQ := Lib.hid qa
     clear qa x0 x1 y0 y1
     go_wp2_with fail
     refine HQ.out.mono ?_
     rintro e w4 ⟨rfl, hS4, hc4⟩
     have hcr4 : Chg (· = ab) w3 w4 := (hcr.trans (Chg.drewN _ wr 1)).trans hc4
     go_wp2_with fail
     refine ⟨⟨m + 1, _, by omega, by omega, by go_num, hS4, fun y => ?_, hcr4⟩, by simp [intOf]; omega⟩
     rw [mem_addA, Harc.out]
     constructor
     ·rintro ((h | ⟨j, hj, e⟩) | h)
      ·exact .inl h
      ·exact .inr ⟨j, by omega, e⟩
      ·refine .inr ⟨m - 1, by omega, ?_⟩
       rw [h, arcAt, show m - 1 + 1 = m from by omega]
       congr 1; omega
     ·rintro (h | ⟨j, hj, e⟩)
      ·exact .inl (.inl h)
      ·by_cases hjm : j + 1 = m
       ·right
        subst hjm
        rw [e, arcAt]
        congr 1; omega
       ·exact .inl (.inr ⟨j, by omega, e⟩)
    ·have hnm : m = n := by omega
     subst hnm
     have hst := HH.out wr hcw
     have hBw : Below base w wr := hcw.below (fun k hk => by rcases hk with e | e | e <;> omega) hbase.1
     have ql := letters_set A hv x.src hx.1 mb la sa lc sc _ wr hst.maker rfl rfl rfl ((hA.below hBw (Nat.le_refl _)).more (by have := hBw.size; omega))
     clear hst x1
     go_wp2_with fail
     refine ql.mono ?_
     rintro e w5 ⟨b5, ks5, rfl, _, _, _, hb5⟩
     have hcw5 : Chg (AllNew w cb ab) w w5 := hcw.trans (Chg.of_below _ hb5)
     have hrr5 := hrr.below hb5 hrr.lt
     have hown5 := own_below hownr hb5
     have hS5 := MapIs.below HSr.out hb5 (MapIs.lt HSr.out)
     have hcb5 := (hcb3.chg hcr (fun e => Blk.ne_map hcb3 hab3 e)).below hb5 (by have := hcb3.lt; have := hcr.size; omega)
     have x0 : w5.cell? ⟨w.heap.size, 0, none⟩ = some (.string x.src) := hrr5.cell 0
     have x1 : w5.cell? ⟨w.heap.size, 1, none⟩ = some (.string x.dst) := hrr5.cell 1
     have y1 : w5.cell? ⟨wg, 1, none⟩ = some (.int .i64 (arcTo x.l c lead 0)) := by
      rw [hown5.cellAt 1 (by omega), way_get c m lead 1 (by omega) (by omega), arcTo, Hn.out]
      by_cases h1 : 1 = m
      ·rw [if_pos h1, if_pos (by omega)]
      ·rw [if_neg h1, if_neg (by omega)]; congr 2; omega
     have H5 := Lib.hid (And.intro hcw5 (And.intro hcb5 hS5))
     have hz5 : w.heap.size ≤ w5.heap.size := hcw5.size
     have hp0 : 0 < m := by omega
     have hp1 : (0 : Int) < (m : Int) := by omega
     have hp2 : (1 : Int) < (m : Int) + 1 := by omega
     obtain ⟨letter, hletter⟩ : ∃ z, firstLetter A.bls (bl x.src) = z := ⟨_, rfl⟩
     rw [hletter]
     have Hletter := Lib.hid hletter
     clear ql hown3 hcb3 hrr3 hab3 hcr3 hcw hrr hownr hBw hcw5 hrr5 hown5 hS5 hcb5 hletter hb5 hcr HX
     have hn0 := World.new_ne w5 ⟨w.heap.size, 0, none⟩ x0
     have hn1 := World.new_ne w5 ⟨w.heap.size, 1, none⟩ x1
     have hn2 := World.new_ne w5 ⟨wg, 1, none⟩ y1
     go_upto_region 13 with (fail)
     go_cut [12] (fun p wx => ∃ g, p = .pointer (some ⟨g, 0, none⟩) ∧ Blk wx g #[.int .i64 0, .int .i64 (byteL (bl x.src) 0), .int .i64 (byteL (bl x.dst) 0), .int .i64 (arcTo x.l c lead 0)] 177 ∧ w5.heap.size ≤ g ∧ Below w5.heap.size w5 wx)
     case first =>
      go_region_held3 (fun w' => w'.cell? ⟨w.heap.size, 0, none⟩ = some (.string x.src) ∧ w'.cell? ⟨w.heap.size, 1, none⟩ = some (.string x.dst) ∧ w'.cell? ⟨wg, 1, none⟩ = some (.int .i64 (arcTo x.l c lead 0))) (go_keep)
       (first | (go_at_call_of 208 (Value.string x.src); refine (at_byte0 x.src _ hx.1).mono ?_; rintro e w' ⟨rfl, rfl⟩) | (go_at_call_of 208 (Value.string x.dst); refine (at_byte0 x.dst _ hx.2.1).mono ?_; rintro e w' ⟨rfl, rfl⟩))
      all_goals (go_wp2_with fail; go_meet; refine ⟨w5.heap.size, rfl, ?_, Nat.le_refl _, ?_⟩)
      all_goals first | exact Blk.new _ _ _ | exact ((Below.refl _ _).alloc (Nat.le_refl _) _).drew
     case rest =>
      obtain ⟨ob, rfl, hob, hge5, hb5c⟩ := hcut
      clear hn0 hn1 hn2 x0 x1 y1
      have hob6 := hob
      obtain ⟨w6, hw6⟩ : ∃ w6, wc.alloc (.cells #[.int .i64 0, .int .i64 1] 3) = w6 := ⟨_, rfl⟩
      have hlit : Blk w6 wc.heap.size #[.int .i64 0, .int .i64 1] 3 := by rw [← hw6]; exact Blk.new _ _ _
      have hbc6 : Below wc.heap.size wc w6 := by rw [← hw6]; exact (Below.refl _ _).alloc (Nat.le_refl _) _
      have hb56 : Below w5.heap.size w5 w6 := hb5c.trans (hbc6.mono hb5c.size)
      have H6 := Lib.hid (show Chg (AllNew w cb ab) w w6 ∧ Blk w6 cb #[.int .i64 ((c + m - 1 : Nat) : Int)] 211 ∧ SetIs w6 ab OkArc (arcs'.map arcV) ∧ Blk w6 ob #[.int .i64 0, .int .i64 (byteL (bl x.src) 0), .int .i64 (byteL (bl x.dst) 0), .int .i64 (arcTo x.l c lead 0)] 177 ∧ Blk w6 wc.heap.size #[.int .i64 0, .int .i64 1] 3 from
       ⟨H5.out.1.trans (Chg.of_below _ hb56), H5.out.2.1.below hb56 H5.out.2.1.lt, MapIs.below H5.out.2.2 hb56 (MapIs.lt H5.out.2.2), hob.below hbc6 hob.lt, hlit⟩)
      have hobl := hob.lt
      have hal5 := MapIs.lt H5.out.2.2
      have hcb5l := H5.out.2.1.lt
      clear hob hob6 hlit hbc6 hb56 hb5c H5
      go_wp2_with fail
      clear hw6
      obtain ⟨lit, hlit⟩ : ∃ lit, wc.heap.size = lit := ⟨_, rfl⟩
      rw [hlit] at H6 hobl ⊢
      clear hlit
      obtain ⟨bA, hbA⟩ : ∃ z, byteL (bl x.src) 0 = z := ⟨_, rfl⟩
      obtain ⟨bB, hbB⟩ : ∃ z, byteL (bl x.dst) 0 = z := ⟨_, rfl⟩
      obtain ⟨aT, haT⟩ : ∃ z, arcTo x.l c lead 0 = z := ⟨_, rfl⟩
      rw [hbA, hbB, haT] at H6
      have Harc0 := Lib.hid (show ∀ f : Int, (⟨f, bA, bB, aT⟩ : Arc) = arcAt x.l c lead 0 f from fun f => by rw [arcAt, ← hbA, ← hbB, ← haT]; rfl)
      clear hbA hbB haT
      have hw6z : w.heap.size ≤ w6.heap.size := H6.out.1.size
      go_loopw [91] (fun i9 wr => ∃ (j : Nat) (arcs2 : List Arc), j ≤ 2 ∧ i9 = .int .i64 j ∧ SetIs wr ab OkArc (arcs2.map arcV) ∧ (∀ y, y ∈ arcs2 ↔ y ∈ arcs' ∨ ∃ s : Nat, s < j ∧ y = arcAt x.l c lead 0 (s : Int)) ∧ (∃ f : Int, Blk wr ob #[.int .i64 f, .int .i64 bA, .int .i64 bB, .int .i64 aT] 177) ∧ Chg (fun k => k = ab ∨ k = ob) w6 wr) (fun i9 _ => 2 - (intOf i9).toNat)
      case atStart => exact ⟨0, arcs', by omega, rfl, H6.out.2.2.1, fun y => ⟨.inl, fun h => h.elim id (fun ⟨s, hs, _⟩ => by omega)⟩, ⟨0, H6.out.2.2.2.1⟩, Chg.refl _ _⟩
      case round =>
       obtain ⟨j, arcs2, hj2, rfl, hS2, harc2, ⟨f, hob2⟩, hc2⟩ := hrel
       have HS2 := Lib.hid hS2
       have Harc2 := Lib.hid harc2
       have Hob2 := Lib.hid hob2
       clear hS2 harc2 hob2
       have hcw : Chg (AllNew w cb ab) w wr := H6.out.1.trans (hc2.mono (fun k hk => hk.elim (fun e => .inr (.inl e)) (fun e => .inr (.inr (by omega)))))
       have hst := HH.out wr hcw
       have hobab : ob ≠ ab := Blk.ne_map Hob2.out HS2.out
       by_cases hjl : j < 2
       ·have hlitr := (H6.out.2.2.2.2).chg hc2 (fun e => e.elim (fun e => Blk.ne_map H6.out.2.2.2.2 H6.out.2.2.1 e) (fun e => by omega))
        have l0 : wr.cell? ⟨lit, j, none⟩ = some (.int .i64 (j : Int)) := by
         rw [hlitr.cell j]
         rcases (by omega : j = 0 ∨ j = 1) with rfl | rfl <;> rfl
        have o0 := Hob2.out.cell 0
        have of0 := Hob2.out.frozen 0
        have o1 := Hob2.out.cell 1
        have o2 := Hob2.out.cell 2
        have o3 := Hob2.out.cell 3
        simp only [List.getElem?_toArray, List.getElem?_cons_zero, List.getElem?_cons_succ] at o0 o1 o2 o3
        have hmk2 : Blk (wr.setCell ⟨ob, 0, none⟩ (.int .i64 (j : Int))) mb _ 217 := Blk.far hst.maker (p := ⟨ob, 0, none⟩) (fun e => Blk.ne_blk hst.maker Hob2.out (by decide) e) _
        have qa := arc_any mb ab _ rfl (arcAt x.l c lead 0 (j : Int)) _ (wr.setCell ⟨ob, 0, none⟩ (.int .i64 (j : Int))) hmk2 (MapIs.setCell HS2.out hobab _)
        rw [← Harc0.out] at qa
        rw [addV_arc] at qa
        have HQ := Lib.hid qa
        clear qa hmk2 hlitr hst
        go_wp2_with fail
        refine HQ.out.mono ?_
        rintro e w7 ⟨rfl, hS7, hc7⟩
        have hc27 : Chg (fun k => k = ab ∨ k = ob) w6 w7 := (hc2.trans (Chg.setCell wr (.inl (.inr rfl)) _)).trans (hc7.mono (fun k hk => .inl hk))
        have hob7 := (Hob2.out.set_ 0 (.int .i64 (j : Int))).chg hc7 hobab
        have Hob7 := Lib.hid hob7
        clear hob7 o0 o1 o2 o3 l0 of0
        go_wp2_with fail
        refine ⟨⟨j + 1, _, by omega, by go_num, hS7, fun y => ?_, ⟨(j : Int), Hob7.out⟩, hc27⟩, by simp [intOf]; omega⟩
        rw [mem_addA, Harc2.out, Harc0.out]
        constructor
        ·rintro ((h | ⟨s, hs, e⟩) | h)
         ·exact .inl h
         ·exact .inr ⟨s, by omega, e⟩
         ·exact .inr ⟨j, by omega, h⟩
        ·rintro (h | ⟨s, hs, e⟩)
         ·exact .inl (.inl h)
         ·by_cases hsj : s = j
          ·subst hsj; exact .inr e
          ·exact .inl (.inr ⟨s, by omega, e⟩)
       ·have hj : j = 2 := by omega
        subst hj
        obtain ⟨w7, rfl⟩ : ∃ w7 : World, w7 = wr := ⟨_, rfl⟩
        have c5 : w7.cell? ⟨mb, 5, none⟩ = some (.slice ava bs.length avc) := Blk.cell hst.maker 5
        have hbl := hst.blen
        have hw7z : w.heap.size ≤ w7.heap.size := hcw.size
        clear hst
        go_wp2_with fail
        go_loopw [105] (fun i9 wr => ∃ (q : Nat) (arcs3 : List Arc), q ≤ bs.length ∧ i9 = .int .i64 q ∧ SetIs wr ab OkArc (arcs3.map arcV) ∧ (∀ y, y ∈ arcs3 ↔ y ∈ arcs2 ∨ ∃ s : Nat, s ∈ startsIn A.bls x.l (RL.take q) (leads.take q) ∧ y = arcAt x.l c lead 0 (s : Int)) ∧ (∃ f : Int, Blk wr ob #[.int .i64 f, .int .i64 bA, .int .i64 bB, .int .i64 aT] 177) ∧ Chg (fun k => k = ab ∨ k = ob) w7 wr) (fun i9 _ => bs.length - (intOf i9).toNat)
        case atStart => exact ⟨0, arcs2, by omega, rfl, HS2.out, fun y => ⟨.inl, fun h => h.elim id (fun ⟨s, hs, _⟩ => by simp [startsIn] at hs)⟩, ⟨f, Hob2.out⟩, Chg.refl _ _⟩
        case round =>
         obtain ⟨q, arcs3, hq, rfl, hS3, harc3, ⟨f3, hob3⟩, hc3⟩ := hrel
         have HS3 := Lib.hid hS3
         have Harc3 := Lib.hid harc3
         have Hob3 := Lib.hid hob3
         clear hS3 harc3 hob3
         have hcw3 : Chg (AllNew w cb ab) w wr := hcw.trans (hc3.mono (fun k hk => hk.elim (fun e => .inr (.inl e)) (fun e => .inr (.inr (by omega)))))
         have hst := HH.out wr hcw3
         have hlen := hst.len
         by_cases hql : q < bs.length
         ·obtain ⟨b, hb⟩ : ∃ b, bs[q]? = some b := ⟨_, List.getElem?_eq_getElem hql⟩
          obtain ⟨o, ho⟩ : ∃ o, RL[q]? = some o := ⟨_, List.getElem?_eq_getElem (by omega)⟩
          obtain ⟨sl, hsl⟩ : ∃ sl, leads[q]? = some sl := ⟨_, List.getElem?_eq_getElem (by omega)⟩
          obtain ⟨ks, hks, hkm⟩ := hst.sets q b o hb ho
          obtain ⟨a', n', hav, _, hrow⟩ := RowAt.of_own hst.av
          obtain ⟨g5, o5, hla, _, hcl5⟩ := hrow (by simp; omega)
          have hava : ava = some ⟨g5, o5, none⟩ := by injection hav with e; rw [e, hla]
          subst hava
          have cm : wr.cell? ⟨g5, o5 + q, none⟩ = some (.map (some b)) := hcl5 q _ (by simp [hb])
          have hlk := SetIs.look hks keyInt Tryz.underlying218 (zero_bool wr) (key := intV letter) (okInt _)
          have hdec : decide (intV letter ∈ ks.map intV) = begB A.bls x.l o := by
           rw [begB, Bool.eq_iff_iff, decide_eq_true_eq, List.contains_iff_mem, ← hkm]
           rw [List.mem_map]
           have hfl : firstLetter A.bls x.l.src = letter := Hletter.out
           rw [hfl]
           exact ⟨fun ⟨z, hz, e⟩ => (show z = letter by simpa [intV] using e) ▸ hz, fun h => ⟨letter, h, rfl⟩⟩
          have htk1 : RL.take (q + 1) = RL.take q ++ [o] := by rw [List.take_add_one, ho]; rfl
          have htk2 : leads.take (q + 1) = leads.take q ++ [sl] := by rw [List.take_add_one, hsl]; rfl
          have Hst := Lib.hid (show startsIn A.bls x.l (RL.take (q + 1)) (leads.take (q + 1)) = startsIn A.bls x.l (RL.take q) (leads.take q) ++ if begB A.bls x.l o then [sl] else [] from by
           rw [htk1, htk2]; exact startsIn_snoc _ _ _ _ _ _ (by rw [List.length_take, List.length_take]; omega))
          rw [hdec] at hlk
          unfold intV at hlk
          clear hdec htk1 htk2 hav hla hcl5 hrow hb hkm
          by_cases hbeg : begB A.bls x.l o = true
          ·have c4 : wr.cell? ⟨mb, 4, none⟩ = some (.slice (some ⟨lb, lo, none⟩) leads.length lvc) := Blk.cell hst.maker 4
           obtain ⟨a', n', hav, _, hrow⟩ := RowAt.of_own hst.lv
           obtain ⟨g6, o6, hla, _, hcl6⟩ := hrow (by simp [natsV]; omega)
           have hlva : (⟨lb, lo, none⟩ : Addr) = ⟨g6, o6, none⟩ := by injection hav with e; rw [hla] at e; injection e
           have cl : wr.cell? ⟨lb, lo + q, none⟩ = some (.int .i64 (sl : Int)) := by
            have := hcl6 q _ (natsV_get _ _ _ hsl)
            injection hlva with e1 e2 _
            rw [e1, e2]; exact this
           have o0 := Hob3.out.cell 0
           have of0 := Hob3.out.frozen 0
           have o1 := Hob3.out.cell 1
           have o2 := Hob3.out.cell 2
           have o3 := Hob3.out.cell 3
           simp only [List.getElem?_toArray, List.getElem?_cons_zero, List.getElem?_cons_succ] at o0 o1 o2 o3
           have hmk2 : Blk (wr.setCell ⟨ob, 0, none⟩ (.int .i64 (sl : Int))) mb _ 217 := Blk.far hst.maker (p := ⟨ob, 0, none⟩) (fun e => Blk.ne_blk hst.maker Hob3.out (by decide) e) _
           have qa := arc_any mb ab _ rfl (arcAt x.l c lead 0 (sl : Int)) _ (wr.setCell ⟨ob, 0, none⟩ (.int .i64 (sl : Int))) hmk2 (MapIs.setCell HS3.out hobab _)
           rw [← Harc0.out] at qa
           rw [addV_arc] at qa
           have HQ := Lib.hid qa
           rw [hbeg] at hlk
           have Hbeg := Lib.hid hbeg
           have hqll : q < leads.length := by omega
           clear qa hmk2 hst hav hla hcl6 hrow hlva hbeg hsl ho
           go_wp2_with fail
           refine HQ.out.mono ?_
           rintro e w8 ⟨rfl, hS8, hc8⟩
           have hc38 : Chg (fun k => k = ab ∨ k = ob) w7 w8 := (hc3.trans (Chg.setCell wr (.inl (.inr rfl)) _)).trans (hc8.mono (fun k hk => .inl hk))
           have hob8 := (Hob3.out.set_ 0 (.int .i64 (sl : Int))).chg hc8 hobab
           have Hob8 := Lib.hid hob8
           clear hob8 o0 o1 o2 o3 cl c4 of0
           go_wp2_with fail
           refine ⟨?_, by simp [intOf]; omega⟩
           repeat apply Exists.intro
           refine ⟨⟨q + 1, _, by omega, by go_num, hS8, fun y => ?_, ⟨(sl : Int), Hob8.out⟩, hc38⟩, rfl⟩
           rw [mem_addA, Harc3.out, Harc0.out, Hst.out, if_pos Hbeg.out]
           constructor
           ·rintro ((h | ⟨s, hs, e⟩) | h)
            ·exact .inl h
            ·exact .inr ⟨s, List.mem_append_left _ hs, e⟩
            ·exact .inr ⟨sl, List.mem_append_right _ (by simp), h⟩
           ·rintro (h | ⟨s, hs, e⟩)
            ·exact .inl (.inl h)
            ·rcases List.mem_append.1 hs with h | h
             ·exact .inl (.inr ⟨s, h, e⟩)
             ·simp at h; subst h; exact .inr e
          ·have hbeg' : begB A.bls x.l o = false := by simpa using hbeg
           rw [hbeg'] at hlk
           have Hbeg := Lib.hid hbeg'
           clear hst hbeg hbeg' hsl ho
           go_wp2_with fail
           refine ⟨⟨q + 1, arcs3, by omega, by go_num, HS3.out, fun y => ?_, ⟨f3, Hob3.out⟩, hc3⟩, by simp [intOf]; omega⟩
           rw [Harc3.out, Hst.out, Hbeg.out]
           simp
         ·have hqe : q = bs.length := by omega
          subst hqe
          go_wp2_with fail
          refine bodyPost_end (v := .tuple #[]) (by simp [results, Tryz.results157, go_sem]) rfl ?_
          refine ⟨rfl, ⟨arcs3, HS3.out, fun y => ?_⟩, ?_, ?_⟩
          ·rw [Harc3.out, Harc2.out, Harc.out, hbl, List.take_length, ← hlen, List.take_length, mem_ruleArcs, Hn.out]
           constructor
           ·rintro (((h | h) | ⟨s, hs, e⟩) | ⟨s, hs, e⟩)
            ·exact .inl h
            ·exact .inr (.inr h)
            ·refine .inr (.inl ⟨s, ?_, e⟩)
             rcases (by omega : s = 0 ∨ s = 1) with rfl | rfl <;> simp
            ·exact .inr (.inl ⟨s, by simp [hs], e⟩)
           ·rintro (h | ⟨s, hs, e⟩ | h)
            ·exact .inl (.inl (.inl h))
            ·rcases List.mem_cons.1 hs with rfl | hs
             ·exact .inl (.inr ⟨0, by omega, e⟩)
             ·rcases List.mem_cons.1 hs with rfl | hs
              ·exact .inl (.inr ⟨1, by omega, e⟩)
              ·exact .inr ⟨s, hs, e⟩
            ·exact .inl (.inl (.inr h))
          ·rw [Hn.out]
           have hcbab : cb ≠ ab := Blk.ne_map H6.out.2.1 H6.out.2.2.1
           exact (H6.out.2.1.chg hc2 (fun e => e.elim hcbab (fun e => by omega))).chg hc3 (fun e => e.elim hcbab (fun e => by omega))
          ·exact ⟨hcw3.os, hcw3.tape, hcw3.output, hcw3.size, fun k hk hS => hcw3.block k hk (fun h => by rcases h with e | e | e; exact hS (.inl e); exact hS (.inr e); omega)⟩

end Go.Proofs.YthachfkcgdfdfaaGreatDoor
