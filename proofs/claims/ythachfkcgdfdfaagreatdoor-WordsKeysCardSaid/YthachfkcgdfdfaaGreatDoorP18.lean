/- C6 · UP · Y1 · DD -/
import Derived.Test.YthachfkcgdfdfaaGreatDoorP16
import Derived.Test.YthachfkcgdfdfaaGreatDoorP17
import Derived.Maps.AppendAt
import Derived.Deep.CutBlock
import Derived.RangeFuncNested
import Derived.RangeFuncBound
/- The library's sort at compile's arcs. -/
namespace Go.Proofs.YthachfkcgdfdfaaGreatDoor
open Go.RowKit Go.Shelf Go.Lib Go.Sort Classical

theorem cmpLaysA (blk off size : Nat) (w : World) : CmpLays Tryz.prog 159 #[] Arc.cells 4 cmpA blk off size w := fun m os dk _ x y => by
 refine (less_any x y _).mono ?_
 rintro e w' ⟨rfl, o1, o2, o3, rfl⟩
 refine ⟨rfl, 1, #[o1, o2, o3], ?_⟩
 generalize sortWorldK Arc.cells 4 w blk off m dk os = W
 rw [show (W.alloc o1).alloc o2 = grow W #[o1, o2] from by rw [alloc_eq_grow, alloc_eq_grow, grow_grow]; rfl]
 rw [show (grow W #[o1, o2]).drewN 1 = grow (W.drewN 1) #[o1, o2] from rfl, alloc_eq_grow, grow_grow]
 rfl

theorem sorted_arcs : SortArcs := by
 intro l g c base w hle hown
 have h := sorted_gen (fun x : Arc => x) cmpA cmpA_lt (fun x y e => e) 159 (enters_of Tryz.func159 (by kernel_rfl) rfl) cmpLaysA l g c base w (by omega) (by rw [List.map_id']; exact hown)
 refine h.mono ?_
 rintro e w' ⟨he, S, h1, h2, h3, h4, h5⟩
 rw [List.map_id'] at h3 h4
 exact ⟨he, S, h1, fun y => h2.mem_iff, fun hn => inc_of_sorted h3 (h2.nodup_iff.2 hn), h4, h5⟩

theorem Compile_prog (R : Ruls) (A B : Alph) (v va vb : Value) (w : World) (h : RulsAt w w.heap.size v R) (ha : AlphAt w w.heap.size va A) (hb : AlphAt w w.heap.size vb B) :
  Calls Tryz.prog 98 #[v, va, vb] w (CompilePost (Valid11 R A B) R A w) := Compile_any sorted_arcs R A B v va vb w h ha hb
end Go.Proofs.YthachfkcgdfdfaaGreatDoor
/- Walk: words.Proper: abbreviations. -/
namespace Go.Proofs.YthachfkcgdfdfaaGreatDoor
open Go.RowKit Classical

def Sht.cells (s : Sht) : List Value := [.string s.lang, .string s.short, .string s.full, .int .i64 s.cost]
def shtV (s : Sht) : Value := .agg #[.string s.lang, .string s.short, .string s.full, .int .i64 s.cost]
def Sht.fits (s : Sht) : Prop := s.lang.size ≤ maxLen ∧ s.short.size ≤ maxLen ∧ s.full.size ≤ maxLen
/-- What the cells of a list of abbreviations hold. -/
theorem RowsAt.shts {w : World} {B : Nat} {a : Option Addr} {l : List Sht} (h : RowsAt w B 4 a (l.map Sht.cells)) (hn : 0 < l.length) :
  ∃ b off, a = some ⟨b, off, none⟩ ∧ b < B ∧ ∀ i (hi : i < l.length), w.cell? ⟨b, off + i * 4, none⟩ = some (.string l[i].lang) ∧ w.cell? ⟨b, off + i * 4 + 1, none⟩ = some (.string l[i].short) ∧
   w.cell? ⟨b, off + i * 4 + 2, none⟩ = some (.string l[i].full) ∧ w.cell? ⟨b, off + i * 4 + 3, none⟩ = some (.int .i64 l[i].cost) := by
 obtain ⟨b, off, e, hb, hc⟩ := h (by simpa using hn)
 refine ⟨b, off, e, hb, fun i hi => ?_⟩
 have hc' := hc i l[i].cells (by simp [hi])
 exact ⟨hc' 0 _ rfl, hc' 1 _ rfl, hc' 2 _ rfl, hc' 3 _ rfl⟩
def OkSht (v : Value) : Prop := ∃ x, v = shtV x
theorem shtV_inj {x y : Sht} (h : shtV x = shtV y) : x = y := by
 cases x; cases y; simpa [shtV] using h
theorem shtV_eq {x y : Sht} : shtV x = shtV y ↔ x = y := ⟨shtV_inj, fun h => by rw [h]⟩
theorem shtV_mem {x : Sht} {l : List Sht} : shtV x ∈ l.map shtV ↔ x ∈ l := by
 rw [List.mem_map]
 constructor
 ·rintro ⟨y, hy, e⟩; exact shtV_inj e ▸ hy
 ·intro h; exact ⟨x, h, rfl⟩
theorem eql_sht (x y : Sht) (w : World) : (binOp .eql 54 (.agg #[.string x.lang, .string x.short, .string x.full, .int .i64 x.cost]) (.agg #[.string y.lang, .string y.short, .string y.full, .int .i64 y.cost])).run Tryz.prog w = .ok (.bool (decide (x = y))) w := by
 have hS : Tryz.prog.underlying 54 = some (.struct (Tryz.prog.fieldsOf 54)) := by kernel_rfl
 have hp : Tryz.prog.stoodInHeld 54 = false := by kernel_rfl
 rw [run_eql_struct, show (10000 : Nat) = 9999 + 1 from rfl, run_equalIn_agg w 9999 54 _ _ hS hp]
 simp only [Program.fieldsOf, Tryz.underlying54]
 go_simp
 have hb : ∀ a b : ByteArray, a.toList = b.toList ↔ a = b := fun a b => by
  rw [ByteArray.toList_eq, ByteArray.toList_eq]
  exact ⟨fun h => bl_inj h, fun h => by rw [h]⟩
 obtain ⟨a, b, c, d⟩ := x
 obtain ⟨a', b', c', d'⟩ := y
 simp only [Sht.mk.injEq]
 simp only [hb]
 by_cases h1 : a = a' <;> by_cases h2 : b = b' <;> by_cases h3 : c = c' <;> simp [h1, h2, h3]
 by_cases h4 : d = d' <;> simp [h4]
set_option maxRecDepth 100000 in
theorem keySht : KeyT Tryz.prog 54 OkSht := by
 have hS : Tryz.prog.underlying 54 = some (.struct (Tryz.prog.fieldsOf 54)) := by kernel_rfl
 refine keyT_struct hS ?_ ?_ ?_ ?_
 ·rintro _ _ ⟨x, rfl⟩ ⟨y, rfl⟩; rfl
 ·rintro em w _ ⟨x, rfl⟩
  unfold shtV
  rw [show (10000 : Nat) = 9998 + 1 + 1 from rfl, Instr.checkKey]
  simp only [Sem.run_bind, run_underlying Tryz.underlying54, Result.andThen_ok]
  rw [← Array.forIn_toList]
  go_simp
  simp only [check_str, check_int, Result.andThen_ok]
 ·rintro _ ⟨x, rfl⟩
  have hb := fun a : ByteArray => (MapKept.bytes_beq a a).2 rfl
  simp [shtV, Instr.sameBits, hb]
 ·rintro w _ _ ⟨x, rfl⟩ ⟨y, rfl⟩
  have := equal_of_eql (eql_sht x y w)
  rw [show (Op.equal 54 (shtV x) (shtV y)).run Tryz.prog w = .ok (decide (x = y)) w from this]
  congr 1
  rw [decide_eq_decide, shtV_eq]
/-- One abbreviation. -/
def Sht.ok (s : Sht) : Prop := nameB (bl s.lang) = true ∧ Dense s.short 24 ∧ Dense s.full 24 ∧ 0 ≤ s.cost ∧ s.cost ≤ 1000

set_option maxRecDepth 100000 in
set_option maxHeartbeats 4000000 in
theorem Proper_any (l : List Sht) (la : Option Addr) (lc : Nat) (hln : l.length ≤ maxLen) (hfit : ∀ s ∈ l, s.fits) (w : World) (hl : RowsAt w w.heap.size 4 la (l.map Sht.cells)) :
  Calls Tryz.prog 21 #[.slice la l.length lc] w fun e w' => e = .returned (.bool (decide (Proper l))) ∧ Below w.heap.size w w' := by
 have hmm := @run_makeMap Tryz.prog
 unfold maxLen at hln
 go_enter Tryz.func21, Tryz.ntmps21
 go_wp2_with fail
 have hM0 : SetIs (w.alloc (.map #[] 0)) w.heap.size OkSht (([] : List Sht).map shtV) := SetIs.made w OkSht
 have hB0 : Below w.heap.size w (w.alloc (.map #[] 0)) := (Below.refl _ _).alloc (Nat.le_refl _) _
 have HM0 := Lib.hid hM0
 have Hcr := Lib.hid (fun (wr : World) (hbr : Below w.heap.size w wr) (k : Nat) (hk : k < l.length) => (show ∃ b off, la = some ⟨b, off, none⟩ ∧ wr.cell? ⟨b, off + k * 4, none⟩ = some (.string l[k].lang) ∧ wr.cell? ⟨b, off + k * 4 + 1, none⟩ = some (.string l[k].short) ∧
   wr.cell? ⟨b, off + k * 4 + 2, none⟩ = some (.string l[k].full) ∧ wr.cell? ⟨b, off + k * 4 + 3, none⟩ = some (.int .i64 l[k].cost) from by
  obtain ⟨b, off, e, hb, hc⟩ := hl.shts (by omega)
  have := hc k hk
  exact ⟨b, off, e, (hbr.cell (p := ⟨b, off + k * 4, none⟩) (by show b < _; omega)).trans this.1, (hbr.cell (p := ⟨b, off + k * 4 + 1, none⟩) (by show b < _; omega)).trans this.2.1, (hbr.cell (p := ⟨b, off + k * 4 + 2, none⟩) (by show b < _; omega)).trans this.2.2.1, (hbr.cell (p := ⟨b, off + k * 4 + 3, none⟩) (by show b < _; omega)).trans this.2.2.2⟩))
 clear hM0 hl hmm
 go_loopw [9] (fun i wr => ∃ k : Nat, k ≤ l.length ∧ i = .int .i64 k ∧ (∀ (a : Nat) r, a < k → l[a]? = some r → r.ok) ∧ (l.take k).Nodup ∧ SetIs wr w.heap.size OkSht ((l.take k).map shtV) ∧ Below w.heap.size w wr ∧ w.heap.size < wr.heap.size) (fun i _ => l.length - (intOf i).toNat)
 case atStart => exact ⟨0, Nat.zero_le _, rfl, by simp, by simp, HM0.out, hB0, by simp⟩
 case round =>
  obtain ⟨k, hk, rfl, hok, hnd, hS, hbr, hlt⟩ := hrel
  have Hok := Lib.hid hok
  have Hnd := Lib.hid hnd
  have HS := Lib.hid hS
  clear hok hnd hS
  by_cases hkl : k < l.length
  ·obtain ⟨b, off, rfl, k0, k1, k2, k3⟩ := Hcr.out wr hbr k hkl
   obtain ⟨x, hx⟩ : ∃ x, l[k] = x := ⟨_, rfl⟩
   have hxm : x ∈ l := by rw [← hx]; exact List.getElem_mem hkl
   have hxf := hfit x hxm
   rw [hx] at k0 k1 k2 k3
   have Hx := Lib.hid hx
   clear hx
   obtain ⟨W3, hW3⟩ : ∃ W3 : World, W3 = wr.alloc (.cells #[.string x.lang, .string x.short, .string x.full, .int .i64 x.cost] 54) := ⟨_, rfl⟩
   have hxb : Blk W3 wr.heap.size #[.string x.lang, .string x.short, .string x.full, .int .i64 x.cost] 54 := by rw [hW3]; exact Blk.new _ _ _
   have hb3 : Below wr.heap.size wr W3 := by rw [hW3]; exact (Below.refl _ _).alloc (Nat.le_refl _) _
   have hs3 : W3.heap.size = wr.heap.size + 1 := by rw [hW3]; simp
   have HK := Lib.hid (fun (wx : World) (hbx : Below W3.heap.size W3 wx) => (show (wx.cell? ⟨wr.heap.size, 0, none⟩ = some (.string x.lang) ∧ wx.cell? ⟨wr.heap.size, 1, none⟩ = some (.string x.short) ∧ wx.cell? ⟨wr.heap.size, 2, none⟩ = some (.string x.full) ∧ wx.cell? ⟨wr.heap.size, 3, none⟩ = some (.int .i64 x.cost)) ∧ SetIs wx w.heap.size OkSht ((l.take k).map shtV) ∧ Below w.heap.size w wx ∧ w.heap.size < wx.heap.size from by
    have hB := hxb.below hbx (by omega)
    have hbb := hb3.trans (hbx.mono (by omega))
    exact ⟨⟨hB.cell 0, hB.cell 1, hB.cell 2, hB.cell 3⟩, MapIs.below HS.out hbb (MapIs.lt HS.out), hbr.trans (hbb.mono (by omega)), Nat.lt_of_lt_of_le hlt hbb.size⟩))
   have Hbad := Lib.hid (fun (hn : ¬ x.ok) (hf : Proper l) => hn (hf.each x hxm))
   clear hxb
   have q1 := isNameW_any x.lang hxf.1 W3
   by_cases p1 : nameB (bl x.lang) = true
   ·rw [hW3, p1] at q1
    have HP1 := Lib.hid p1
    clear p1
    go_wp2_with fail
    refine q1.mono ?_
    rintro e w3 ⟨rfl, hbx⟩
    rw [← hW3] at hbx
    clear q1 k0 k1 k2 k3
    obtain ⟨⟨m0, m1, m2, m3⟩, hS3, hbW3, _⟩ := HK.out w3 hbx
    by_cases p2 : Dense x.short 24
    ·have q2 := dense_any x.short 24 w3
     rw [decide_eq_true p2] at q2
     have HP2 := Lib.hid p2
     clear p2
     go_wp2_with fail
     refine q2.mono ?_
     rintro e w4 ⟨rfl, hbx4⟩
     have hbx4' := hbx.trans (hbx4.mono hbx.size)
     clear q2 m0 m1 m2 m3 hS3 hbW3 hbx4 hbx
     obtain ⟨⟨m0, m1, m2, m3⟩, hS3, hbW3, _⟩ := HK.out w4 hbx4'
     by_cases p3 : Dense x.full 24
     ·have q3 := dense_any x.full 24 w4
      rw [decide_eq_true p3] at q3
      have HP3 := Lib.hid p3
      clear p3
      go_wp2_with fail
      refine q3.mono ?_
      rintro e w5 ⟨rfl, hbx5⟩
      have hbx5' := hbx4'.trans (hbx5.mono hbx4'.size)
      clear q3 m0 m1 m2 m3 hS3 hbW3 hbx4' hbx5
      obtain ⟨⟨m0, m1, m2, m3⟩, hS5, hbW5, hlt5⟩ := HK.out w5 hbx5'
      by_cases p4 : 0 ≤ x.cost
      ·by_cases p5 : x.cost ≤ 1000
       ·have Hxok := Lib.hid (show x.ok from ⟨HP1.out, HP2.out, HP3.out, p4, p5⟩)
        have hlk := SetIs.look hS5 keySht Tryz.underlying92 (zero_bool w5) (key := shtV x) ⟨x, rfl⟩
        by_cases hin : x ∈ l.take k
        ·rw [decide_eq_true (shtV_mem.2 hin)] at hlk
         unfold shtV at hlk
         have HB := Lib.hid (show ¬ Proper l from fun hf => by
          have hnd := hf.once
          obtain ⟨j, hj, hje⟩ := List.getElem_of_mem hin
          rw [List.length_take] at hj
          rw [List.getElem_take, ← Hx.out] at hje
          have := (List.getElem_inj hnd).1 hje
          omega)
         clear hin
         go_wp2_with fail
         go_ret
         exact ⟨ret_no HB.out, hbW5⟩
        ·rw [decide_eq_false (fun h => hin (shtV_mem.1 h))] at hlk
         obtain ⟨w6, hrun, hS6, hg6, hs6⟩ := SetIs.put hS5 keySht Tryz.underlying92 (key := shtV x) ⟨x, rfl⟩
         rw [addV, if_neg (fun h => hin (shtV_mem.1 h))] at hS6
         have HS6 := Lib.hid hS6
         have hbr6 := hbW5.grown hg6 hbW5.size (fun j hj => by cases hj; exact Nat.le_refl _)
         have hlt6 : w.heap.size < w6.heap.size := by rw [hs6]; exact hlt5
         have Hin := Lib.hid hin
         unfold shtV at hlk hrun
         have Hend := Lib.hid (show (∀ (a : Nat) r, a < k + 1 → l[a]? = some r → r.ok) ∧ (l.take (k + 1)).Nodup ∧ SetIs w6 w.heap.size OkSht ((l.take (k + 1)).map shtV) from by
          have htk : l.take (k + 1) = l.take k ++ [x] := by rw [List.take_succ_eq_append_getElem hkl, Hx.out]
          refine ⟨fun a r ha hr => ?_, ?_, ?_⟩
          ·rcases Nat.lt_succ_iff_lt_or_eq.1 ha with h | rfl
           ·exact Hok.out a r h hr
           ·rw [List.getElem?_eq_getElem hkl, Hx.out] at hr; obtain rfl := Option.some.inj hr; exact Hxok.out
          ·rw [htk]
           refine List.nodup_append.2 ⟨Hnd.out, by simp, fun y hy z hz e => ?_⟩
           have : z = x := by simpa using hz
           subst this; subst e
           exact Hin.out hy
          ·rw [htk, List.map_append]; exact HS6.out)
         clear hin hS6 hg6 hs6 hS5
         go_wp2_with fail
         exact ⟨⟨k + 1, by omega, by go_num, Hend.out.1, Hend.out.2.1, Hend.out.2.2, hbr6, hlt6⟩, by simp [intOf]; omega⟩
       ·have HB := Lib.hid (Hbad.out (fun h => p5 h.2.2.2.2))
        have d5 : decide (1000 < x.cost) = true := decide_eq_true (by omega)
        clear hS5
        go_wp2_with fail
        go_ret
        exact ⟨ret_no HB.out, hbW5⟩
      ·have HB := Lib.hid (Hbad.out (fun h => p4 h.2.2.2.1))
       have d4 : decide (x.cost < 0) = true := decide_eq_true (by omega)
       clear hS5
       go_wp2_with fail
       go_ret
       exact ⟨ret_no HB.out, hbW5⟩
     ·have q3 := dense_any x.full 24 w4
      rw [decide_eq_false p3] at q3
      have HB := Lib.hid (Hbad.out (fun h => p3 h.2.2.1))
      clear p3
      go_wp2_with fail
      refine q3.mono ?_
      rintro e w5 ⟨rfl, hbx5⟩
      have hbw5 := (HK.out w5 (hbx4'.trans (hbx5.mono hbx4'.size))).2.2.1
      clear q3 m0 m1 m2 m3 hS3 hbW3
      go_wp2_with fail
      go_ret
      exact ⟨ret_no HB.out, hbw5⟩
    ·have q2 := dense_any x.short 24 w3
     rw [decide_eq_false p2] at q2
     have HB := Lib.hid (Hbad.out (fun h => p2 h.2.1))
     clear p2
     go_wp2_with fail
     refine q2.mono ?_
     rintro e w4 ⟨rfl, hbx4⟩
     have hbw4 := (HK.out w4 (hbx.trans (hbx4.mono hbx.size))).2.2.1
     clear q2 m0 m1 m2 m3 hS3 hbW3
     go_wp2_with fail
     go_ret
     exact ⟨ret_no HB.out, hbw4⟩
   ·have p1' : nameB (bl x.lang) = false := by simpa using p1
    rw [hW3, p1'] at q1
    have HB := Lib.hid (Hbad.out (fun h => p1 h.1))
    clear p1 p1'
    go_wp2_with fail
    refine q1.mono ?_
    rintro e w3 ⟨rfl, hbx⟩
    rw [← hW3] at hbx
    have hbw3 := (HK.out w3 hbx).2.2.1
    clear q1 k0 k1 k2 k3
    go_wp2_with fail
    go_ret
    exact ⟨ret_no HB.out, hbw3⟩
  ·obtain rfl : k = l.length := by omega
   have Hall := Lib.hid (show Proper l ↔ l.length ≤ 100 from ⟨fun h => h.most, fun h => ⟨h, fun r hr => by
    obtain ⟨i, hi⟩ := List.getElem?_of_mem hr
    exact Hok.out i r (List.getElem?_eq_some_iff.1 hi).1 hi, by have := Hnd.out; rwa [List.take_length] at this⟩⟩)
   go_wp2_with fail
   all_goals
    go_ret
    refine ⟨ret_dec ?_, hbr⟩
    rw [Hall.out]
    simp
    try omega
end Go.Proofs.YthachfkcgdfdfaaGreatDoor
/- The bridge of layer 17's examples: its alphabets and rules are valid; what its machine answers. No program in sight. -/
namespace Go.Proofs.YthachfkcgdfdfaaGreatDoor
open Go Classical

/-- An alphabet of single bytes, each its own small letter. -/
def singles (n cs : List UInt8) : Alph := ⟨bs n, cs.map (fun c => bs [c]), (List.range cs.length).map (fun i : Nat => (i : Int))⟩
theorem singles_bls (n cs : List UInt8) : (singles n cs).bls = cs.map (fun c => [c]) := by
 simp [singles, Alph.bls, bl_bs, List.map_map, Function.comp_def]
theorem singles_ok (n cs : List UInt8) (hn : nameB n = true) (h1 : 1 ≤ cs.length) (h2 : cs.length ≤ 64) (hnd : cs.Nodup) (hp : ∀ c ∈ cs, printC c = true) : Valid10 (singles n cs) := by
 refine ⟨⟨by simpa [singles, bl_bs] using hn, by simpa [singles] using h1, by simpa [singles] using h2, by simp [singles], ?_, ?_, ?_, ?_⟩, ?_⟩
 ·intro l hl
  obtain ⟨c, hc, rfl⟩ := List.mem_map.1 hl
  rw [bs_size, bl_bs]
  exact ⟨by simp, by simp, by simp [printB, hp c hc]⟩
 ·intro z hz
  obtain ⟨i, hi, rfl⟩ := List.mem_map.1 hz
  have := List.mem_range.1 hi
  simp only [singles, List.length_map]
  omega
 ·exact List.pairwise_map.2 (hnd.imp (fun h e => h (by have := bs_inj e; simpa using this)))
 ·intro i z hi
  have hi : ((List.range cs.length).map (fun i : Nat => (i : Int)))[i]? = some z := hi
  rw [List.getElem?_map] at hi
  have hil : i < cs.length := by
   rcases Nat.lt_or_ge i cs.length with h | h
   ·exact h
   ·rw [List.getElem?_eq_none (by simpa using h)] at hi; cases hi
  rw [List.getElem?_range hil] at hi
  simp at hi
  subst hi
  show ((List.range cs.length).map (fun i : Nat => (i : Int)))[_]? = _
  rw [List.getElem?_map, Int.toNat_natCast, List.getElem?_range hil]
  rfl
 ·intro i k l m hne hl hm hpre
  have hl : (cs.map (fun c => bs [c]))[i]? = some l := hl
  have hm : (cs.map (fun c => bs [c]))[k]? = some m := hm
  rw [List.getElem?_map] at hl hm
  cases hi : cs[i]? with
  | none => rw [hi] at hl; cases hl
  | some c =>
   cases hk : cs[k]? with
   | none => rw [hk] at hm; cases hm
   | some d =>
    rw [hi] at hl
    rw [hk] at hm
    cases hl
    cases hm
    rw [bl_bs, bl_bs] at hpre
    have : d = c := by simpa using hpre
    subst this
    obtain ⟨a1, a2⟩ := List.getElem?_eq_some_iff.1 hi
    obtain ⟨b1, b2⟩ := List.getElem?_eq_some_iff.1 hk
    exact absurd ((List.getElem_inj hnd).1 (a2.trans b2.symm)) hne

/-- abc .. z -/
def smalls : List UInt8 := (List.range 26).map (fun i => (97 + i).toUInt8)
def latinA : Alph := singles [108, 97, 116, 105, 110] smalls
def upperA : Alph := singles [117, 112, 112, 101, 114] [65, 78, 67]
def exR : Ruls := ⟨bs [117, 112, 112, 101, 114], bs [108, 97, 116, 105, 110], [⟨bs [65], bs [97], bs [], false⟩, ⟨bs [78], bs [110], bs [], false⟩, ⟨bs [67], bs [99, 104], bs [], false⟩]⟩
theorem latin_ok : Valid10 latinA := singles_ok _ _ (by decide) (by decide) (by decide) (by decide) (by decide)
theorem upper_ok : Valid10 upperA := singles_ok _ _ (by decide) (by decide) (by decide) (by decide) (by decide)
theorem ex_ok : Valid11 exR upperA latinA := by
 refine ⟨⟨by simp only [exR, bl_bs]; decide, by simp only [exR, bl_bs]; decide, by simp [exR], by simp [exR], ?_, ?_⟩, upper_ok, latin_ok, rfl, rfl, ?_⟩
 ·intro r hr
  simp [exR] at hr
  rcases hr with rfl | rfl | rfl
  ·refine ⟨⟨?_, ?_, ?_⟩, ⟨?_, ?_, ?_⟩, ⟨?_, ?_, ?_⟩, ?_⟩ <;> simp only [bl_bs, bs_size] <;> decide
  ·refine ⟨⟨?_, ?_, ?_⟩, ⟨?_, ?_, ?_⟩, ⟨?_, ?_, ?_⟩, ?_⟩ <;> simp only [bl_bs, bs_size] <;> decide
  ·refine ⟨⟨?_, ?_, ?_⟩, ⟨?_, ?_, ?_⟩, ⟨?_, ?_, ?_⟩, ?_⟩ <;> simp only [bl_bs, bs_size] <;> decide
 ·simp only [exR, List.nodup_cons, List.mem_cons, List.not_mem_nil, or_false, not_or, List.nodup_nil, and_true]
  refine ⟨⟨fun h => ?_, fun h => ?_⟩, fun h => ?_, fun h => h⟩ <;> (have := bs_inj (congrArg Rul.src h); cases this)
 ·have hu : upperA.bls = [[65], [78], [67]] := by unfold upperA; rw [singles_bls]; rfl
  have hl : latinA.bls = smalls.map (fun c => [c]) := by unfold latinA; rw [singles_bls]
  intro r hr
  simp [exR] at hr
  rcases hr with rfl | rfl | rfl
  ·refine ⟨.inr ?_, .inr ?_, .inl (bl_bs _)⟩
   ·rw [bl_bs, hu]; decide
   ·rw [bl_bs, hl]; decide
  ·refine ⟨.inr ?_, .inr ?_, .inl (bl_bs _)⟩
   ·rw [bl_bs, hu]; decide
   ·rw [bl_bs, hl]; decide
  ·refine ⟨.inr ?_, .inr ?_, .inl (bl_bs _)⟩
   ·rw [bl_bs, hu]; decide
   ·rw [bl_bs, hl]; decide

/-- The machine from upper to latin. -/
def exM : Mach := ⟨4, 0, [1, 2], [⟨0, 65, 97, 1⟩, ⟨0, 67, 99, 3⟩, ⟨0, 78, 110, 1⟩, ⟨1, 65, 97, 1⟩, ⟨1, 67, 99, 3⟩, ⟨1, 78, 110, 1⟩, ⟨3, 0, 104, 1⟩]⟩
theorem ex_inc : Increasing exM.arcs := by
 unfold Increasing exM
 simp [Arc.lt]
theorem ex_of {M : Mach} (h : CompileOf exR upperA M) : M = exM := by
 have hb : upperA.bls = [[65], [78], [67]] := by unfold upperA; rw [singles_bls]; rfl
 have hl : exR.list.map Rul.l = [⟨[65], [97], [], false⟩, ⟨[78], [110], [], false⟩, ⟨[67], [99, 104], [], false⟩] := by simp [exR, Rul.l, bl_bs]
 obtain ⟨m1, m2, m3, m4⟩ := M
 have e1 : m1 = 4 := h.states.trans (by rw [hl]; decide)
 have e2 : m2 = 0 := h.start
 have e3 : m3 = [1, 2] := h.final
 have e4 : m4 = exM.arcs := h.inc.ext ex_inc (fun y => (h.mem y).trans (by
  rw [hl, hb]
  have : compileArcs [[65], [78], [67]] [⟨[65], [97], [], false⟩, ⟨[78], [110], [], false⟩, ⟨[67], [99, 104], [], false⟩] = [⟨0, 65, 97, 1⟩, ⟨1, 65, 97, 1⟩, ⟨0, 78, 110, 1⟩, ⟨1, 78, 110, 1⟩, ⟨0, 67, 99, 3⟩, ⟨1, 67, 99, 3⟩, ⟨3, 0, 104, 1⟩] := by decide
  rw [this]
  simp only [exM, List.mem_cons, List.not_mem_nil, or_false]
  constructor
  ·rintro (h | h | h | h | h | h | h) <;> simp [h]
  ·rintro (h | h | h | h | h | h | h) <;> simp [h]))
 rw [e1, e2, e3, e4]
 rfl
theorem ex_arc {a : Arc} (h : a ∈ exM.arcs) : a = ⟨0, 65, 97, 1⟩ ∨ a = ⟨0, 67, 99, 3⟩ ∨ a = ⟨0, 78, 110, 1⟩ ∨ a = ⟨1, 65, 97, 1⟩ ∨ a = ⟨1, 67, 99, 3⟩ ∨ a = ⟨1, 78, 110, 1⟩ ∨ a = ⟨3, 0, 104, 1⟩ := by simpa [exM] using h
theorem ex_valid : ValidM exM := by
 refine ⟨by simp [exM], by simp [exM], by simp [exM, StateOk], by simp [exM], ?_, by simp [exM], ?_, ex_inc⟩
 ·intro s hs
  simp [exM] at hs
  rcases hs with rfl | rfl <;> simp [exM, StateOk]
 ·intro a ha
  rcases ex_arc ha with rfl | rfl | rfl | rfl | rfl | rfl | rfl <;> simp [exM, StateOk, SymOk]
theorem ex_way {s t : Int} (h : Way (Ed exM) s t) : s = 3 ∧ t = 1 := by
 have hed : ∀ u v, Ed exM u v → u = 3 ∧ v = 1 := by
  rintro u v ⟨a, ha, rfl⟩
  obtain ⟨h1, h2, h3⟩ := mem_runA.1 ha
  rcases ex_arc h1 with rfl | rfl | rfl | rfl | rfl | rfl | rfl <;> simp at h2 h3 ⊢
  exact h2.symm
 induction h with
 | one h1 => exact hed _ _ h1
 | more _ h1 ih =>
  have := hed _ _ h1
  omega
theorem ex_no : ¬ Circle exM := by
 rintro ⟨s, hs⟩
 have := ex_way hs
 omega
theorem ex_step {l : List UInt8} {b : UInt8} (hb : b ≠ 0) {ks ks' : List Plc} (h : ∀ p, Reach exM l p → p ∈ ks) (h0 : ∀ p ∈ ks, ∀ a ∈ exM.arcs, a.frm = p.st → a.inp = (b.toNat : Int) → stepA p a ∈ ks') (h1 : ∀ p ∈ ks', ∀ a ∈ exM.arcs, a.frm = p.st → a.inp = 0 → stepA p a ∈ ks') : ∀ p, Reach exM (l ++ [b]) p → p ∈ ks' :=
 reach_sub hb h (fun p hp a ha => by obtain ⟨q1, q2, q3⟩ := mem_runA.1 ha; exact h0 p hp a q1 q2 q3) (fun p hp a ha => by obtain ⟨q1, q2, q3⟩ := mem_runA.1 ha; exact h1 p hp a q1 q2 q3)
def e0 : List Plc := [⟨0, bs []⟩]
theorem ex_r0 : ∀ p, Reach exM [] p → p ∈ e0 := fun p hp => by
 rw [Reach_nil] at hp
 refine cl_sub (fun q hq => by rw [hq]; simp [e0, exM, bs]) (fun q hq a ha => ?_) hp
 simp [e0] at hq
 subst hq
 obtain ⟨h1, h2, h3⟩ := mem_runA.1 ha
 rcases ex_arc h1 with rfl | rfl | rfl | rfl | rfl | rfl | rfl <;> simp at h2 h3
/-- A letter with one arc to state 1. -/
theorem ex_one {l t : List UInt8} {b c : UInt8} {s : Int} (hs : s = 0 ∨ s = 1) (hbc : (b = 65 ∧ c = 97) ∨ (b = 78 ∧ c = 110)) (h : ∀ p, Reach exM l p → p ∈ [(⟨s, bs t⟩ : Plc)]) : ∀ p, Reach exM (l ++ [b]) p → p ∈ [(⟨1, bs (t ++ [c])⟩ : Plc)] := by
 refine ex_step (by rcases hbc with ⟨rfl, _⟩ | ⟨rfl, _⟩ <;> decide) h (fun q hq a ha e1 e2 => ?_) (fun q hq a ha e1 e2 => ?_)
 ·obtain rfl := List.mem_singleton.1 hq
  rcases hs with rfl | rfl <;> rcases hbc with ⟨rfl, rfl⟩ | ⟨rfl, rfl⟩ <;> rcases ex_arc ha with rfl | rfl | rfl | rfl | rfl | rfl | rfl <;> simp at e1 e2 <;> (rw [stepA, after_bs _ _ (by decide)]; exact List.mem_singleton.2 rfl)
 ·obtain rfl := List.mem_singleton.1 hq
  rcases ex_arc ha with rfl | rfl | rfl | rfl | rfl | rfl | rfl <;> simp at e1 e2
theorem ex_c : ∀ p, Reach exM [67] p → p ∈ [(⟨3, bs [99]⟩ : Plc), ⟨1, bs [99, 104]⟩] := by
 refine ex_step (l := []) (by decide) ex_r0 (fun q hq a ha e1 e2 => ?_) (fun q hq a ha e1 e2 => ?_)
 ·simp [e0] at hq
  subst hq
  rcases ex_arc ha with rfl | rfl | rfl | rfl | rfl | rfl | rfl <;> simp at e1 e2
  rw [stepA, after_bs _ _ (by decide)]; simp
 ·simp at hq
  rcases hq with rfl | rfl
  ·rcases ex_arc ha with rfl | rfl | rfl | rfl | rfl | rfl | rfl <;> simp at e1 e2
   rw [stepA, after_bs _ _ (by decide)]; simp
  ·rcases ex_arc ha with rfl | rfl | rfl | rfl | rfl | rfl | rfl <;> simp at e1 e2
theorem ex_ca : ∀ p, Reach exM [67, 65] p → p ∈ [(⟨1, bs [99, 104, 97]⟩ : Plc)] := by
 refine ex_step (l := [67]) (by decide) ex_c (fun q hq a ha e1 e2 => ?_) (fun q hq a ha e1 e2 => ?_)
 ·simp at hq
  rcases hq with rfl | rfl
  ·rcases ex_arc ha with rfl | rfl | rfl | rfl | rfl | rfl | rfl <;> simp at e1 e2
  ·rcases ex_arc ha with rfl | rfl | rfl | rfl | rfl | rfl | rfl <;> simp at e1 e2
   rw [stepA, after_bs _ _ (by decide)]; simp
 ·simp at hq
  subst hq
  rcases ex_arc ha with rfl | rfl | rfl | rfl | rfl | rfl | rfl <;> simp at e1 e2
theorem ex_can : ∀ p, Reach exM [67, 65, 78] p → p ∈ [(⟨1, bs [99, 104, 97, 110]⟩ : Plc)] := ex_one (l := [67, 65]) (.inr rfl) (.inr ⟨rfl, rfl⟩) ex_ca
theorem ex_n : ∀ p, Reach exM [78] p → p ∈ [(⟨1, bs [110]⟩ : Plc)] := ex_one (l := []) (.inl rfl) (.inr ⟨rfl, rfl⟩) ex_r0
theorem ex_na : ∀ p, Reach exM [78, 65] p → p ∈ [(⟨1, bs [110, 97]⟩ : Plc)] := ex_one (l := [78]) (.inr rfl) (.inl ⟨rfl, rfl⟩) ex_n
theorem ex_go_can : Reach exM [67, 65, 78] ⟨1, bs [99, 104, 97, 110]⟩ := by
 have a0 : Reach exM [] ⟨0, bs []⟩ := by rw [Reach_nil]; exact .base (by simp [exM, bs])
 have a1 := reach_go (l := []) (b := 67) (by decide) (a := ⟨0, 67, 99, 3⟩) a0 (by simp [exM]) rfl rfl
 rw [stepA, after_bs _ _ (by decide)] at a1
 have a2 := reach_still (l := []) (b := 67) (by decide) (a := ⟨3, 0, 104, 1⟩) a1 (by simp [exM]) rfl rfl
 rw [stepA, after_bs _ _ (by decide)] at a2
 have a3 := reach_go (l := [67]) (b := 65) (by decide) (a := ⟨1, 65, 97, 1⟩) a2 (by simp [exM]) rfl rfl
 rw [stepA, after_bs _ _ (by decide)] at a3
 have a4 := reach_go (l := [67, 65]) (b := 78) (by decide) (a := ⟨1, 78, 110, 1⟩) a3 (by simp [exM]) rfl rfl
 rw [stepA, after_bs _ _ (by decide)] at a4
 exact a4
theorem ex_go_na : Reach exM [78, 65] ⟨1, bs [110, 97]⟩ := by
 have a0 : Reach exM [] ⟨0, bs []⟩ := by rw [Reach_nil]; exact .base (by simp [exM, bs])
 have a1 := reach_go (l := []) (b := 78) (by decide) (a := ⟨0, 78, 110, 1⟩) a0 (by simp [exM]) rfl rfl
 rw [stepA, after_bs _ _ (by decide)] at a1
 have a2 := reach_go (l := [78]) (b := 65) (by decide) (a := ⟨1, 65, 97, 1⟩) a1 (by simp [exM]) rfl rfl
 rw [stepA, after_bs _ _ (by decide)] at a2
 exact a2
theorem ex_few {x : List UInt8} (hx : x <+: [67, 65, 78] ∨ x <+: [78, 65]) : FewPl (Reach exM x) := by
 have h : x = [] ∨ x = [67] ∨ x = [67, 65] ∨ x = [67, 65, 78] ∨ x = [78] ∨ x = [78, 65] := by
  rcases hx with ⟨r, hr⟩ | ⟨r, hr⟩
  ·match x, hr with
   | [], _ => simp
   | [a], h => simp at h; simp [h.1]
   | [a, b], h => simp at h; simp [h.1, h.2.1]
   | [a, b, c], h => simp at h; simp [h.1, h.2.1, h.2.2.1]
   | a :: b :: c :: d :: e, h => simp at h
  ·match x, hr with
   | [], _ => simp
   | [a], h => simp at h; simp [h.1]
   | [a, b], h => simp at h; simp [h.1, h.2.1]
   | a :: b :: c :: d, h => simp at h
 rcases h with rfl | rfl | rfl | rfl | rfl | rfl
 ·exact ⟨e0, by simp [e0], ex_r0⟩
 ·exact ⟨_, by simp, ex_c⟩
 ·exact ⟨_, by simp, ex_ca⟩
 ·exact ⟨_, by simp, ex_can⟩
 ·exact ⟨_, by simp, ex_n⟩
 ·exact ⟨_, by simp, ex_na⟩
theorem ex_runs {x : List UInt8} (hx : x <+: [67, 65, 78] ∨ x <+: [78, 65]) {ts : List ByteArray} {err : Int} (h : RunsOf exM x ts err) : err = 0 ∧ SortedB ts ∧ ∀ t, t ∈ ts ↔ Result exM x t := by
 have hl : x.length ≤ 3 := by rcases hx with hx | hx <;> (have := hx.length_le; simp at this; omega)
 rcases h with ⟨h, _⟩ | ⟨_, ⟨h, _⟩ | ⟨_, ⟨⟨i, _, hi⟩, _⟩ | ⟨_, h1, h2, h3⟩⟩⟩
 ·exact absurd ⟨ex_valid, by omega⟩ h
 ·exact absurd h ex_no
 ·exact absurd (ex_few (hx.imp (fun h => (List.take_prefix i x).trans h) (fun h => (List.take_prefix i x).trans h))) hi
 ·exact ⟨h1, h2, h3⟩
theorem ex_runs_can {ts : List ByteArray} {err : Int} (h : RunsOf exM [67, 65, 78] ts err) : err = 0 ∧ ts = [bs [99, 104, 97, 110]] := by
 obtain ⟨h1, h2, h3⟩ := ex_runs (.inl (List.prefix_refl _)) h
 refine ⟨h1, h2.ext ⟨by simp, by simp⟩ (fun t => (h3 t).trans ?_)⟩
 simp only [List.mem_singleton]
 constructor
 ·rintro ⟨_, s, hs, hr⟩
  have := ex_can _ hr
  simp at this
  exact this.2
 ·rintro rfl
  exact ⟨by simp, 1, by simp [exM], ex_go_can⟩
theorem ex_runs_na {ts : List ByteArray} {err : Int} (h : RunsOf exM [78, 65] ts err) : err = 0 ∧ ts = [bs [110, 97]] := by
 obtain ⟨h1, h2, h3⟩ := ex_runs (.inr (List.prefix_refl _)) h
 refine ⟨h1, h2.ext ⟨by simp, by simp⟩ (fun t => (h3 t).trans ?_)⟩
 simp only [List.mem_singleton]
 constructor
 ·rintro ⟨_, s, hs, hr⟩
  have := ex_na _ hr
  simp at this
  exact this.2
 ·rintro rfl
  exact ⟨by simp, 1, by simp [exM], ex_go_na⟩
end Go.Proofs.YthachfkcgdfdfaaGreatDoor
/- D4 · RF · D5a -/
/- Walk: numbering the pairs that are found (a function value of compose.Compose). -/
namespace Go.Proofs.YthachfkcgdfdfaaGreatDoor
open Go.RowKit Classical

def prV (x : Int × Int) : Value := .agg #[.int .i64 x.1, .int .i64 x.2]
def OkPr (v : Value) : Prop := ∃ x, v = prV x
/-- The pairs with their numbers. -/
def numEs (l : List (Int × Int)) : List (Value × Value) := (List.range l.length).map (fun i : Nat => (prV ((l[i]?).getD (0, 0)), Value.int .i64 (i : Int)))
/-- The numbers and the order of the pairs that were found. -/
structure NumAt (w : World) (Bn Bo bnum base : Nat) (ord : List (Int × Int)) (ov : Value) : Prop where
 bn : Blk w Bn #[.map (some bnum)] 225
 bo : Blk w Bo #[ov] 226
 isMap : MapIs w bnum OkPr (numEs ord)
 row : w.ownsRow base 228 2 ov ord.length (pairsV ord)
end Go.Proofs.YthachfkcgdfdfaaGreatDoor

/- A range over a function whose rounds all go on: what the iterator reads must be kept over a whole round, not over its two halves (the loop's variables are blocks that the body writes). -/
namespace Go.Proofs.YthachfkcgdfdfaaGreatDoor
open Go.RowKit

end Go.Proofs.YthachfkcgdfdfaaGreatDoor

/- What a round of compose.Compose turns: the pairs' numbers, their order, the arcs. -/
namespace Go.Proofs.YthachfkcgdfdfaaGreatDoor
open Go.RowKit Classical

section
variable {bnum Bn Bo bO base base2 bml bnl : Nat} {W W' : World} {ord ord' : List (Int × Int)} {l l' : List Arc} {ov ov' fv av av' : Value} {x y : Value}
end

/-- The world at the head of a round. -/
structure LW (n5 : Nat) (W5 W : World) (Bn Bo bnum bO : Nat) (ov0 : Value) (M N : Mach) (st : PSt) (i ib : Nat) (fv av ov : Value) : Prop where
 num : NumAt W Bn Bo bnum bnum st.ord ov
 out : Blk W bO #[.int .i64 0, .int .i64 0, fv, av] 96
 fin : W.ownsRow n5 3 1 fv (finO M N st.ord i).length (nums (finO M N st.ord i))
 arc : arcRow W n5 av st.arcs
 ibk : Blk W ib #[.int .i64 (i : Int)] 3
 ibl : bO < ib
 chg : Chg (fun k => k = bnum ∨ k = Bo ∨ k = bO ∨ ov0.ownBlock = some k) W5 W
 ovr : ∀ g, ov.ownBlock = some g → ov0.ownBlock = some g ∨ n5 ≤ g
 fib : fv.ownBlock ≠ some ib

end Go.Proofs.YthachfkcgdfdfaaGreatDoor
