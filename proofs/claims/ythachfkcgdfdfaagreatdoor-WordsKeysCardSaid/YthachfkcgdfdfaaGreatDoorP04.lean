/- QA · GL · GB · VC · QC · BR · BP -/
import Derived.Test.YthachfkcgdfdfaaGreatDoorP03
import Derived.Test.YthachfkcgdfdfaaGreatDoorRows
import Derived.WalkKit
import Derived.Deep.DeepHandedRow
import Derived.Deep.DeepWitnessRowRef
import Derived.Carry
import Derived.Lib.SmallJoins
import Derived.Deep.Strs
import Derived.Deep.Slices
import Derived.ChangeSlices
import Derived.OpenShut
import Derived.ProofKit
import Derived.Deep.QuietTactic
import Derived.BigQuiet
import Derived.IntWalk
import Derived.Laws.CopyOwn
import Derived.Test.YthachfkcgdfdfaaGreatDoorShelf
import Derived.Laws.IdiomCopy
import Derived.Lib.SlicesCompact
import Derived.Lib.SliceRun
import Derived.RangeFuncNested
import Derived.RangeFuncBound
import Derived.RangeFuncCalls
import Derived.RangeFuncLeaves
import Derived.RangeFuncWrites
import Derived.Deep.AppendLies
import Derived.Laws.OwnMore
/- Q0 · QM · QW -/
/- The arguments of the laws as a row reads them: rules and alphabets. -/
namespace Go.Proofs.YthachfkcgdfdfaaGreatDoor
open Go.ChangeShapes Go.WideShapes Go.ChangeAt Go.RowKit Go.Joins Go.Deep
set_option maxRecDepth 100000
section
variable {H : Type} {enc : TypeId × Value → H} {w : World}

theorem c9 : Tryz.prog.cellsOf 9 = 1 := by kernel_rfl
theorem c4 : Tryz.prog.cellsOf 4 = 1 := by kernel_rfl
end

theorem ownK : ownKnob Tryz.prog.godebug = none := by kernel_rfl
theorem laidOutP : laidOutB Tryz.prog = true := by kernel_rfl

end Go.Proofs.YthachfkcgdfdfaaGreatDoor

/- The arguments of the laws as a row reads them: machines. -/
namespace Go.Proofs.YthachfkcgdfdfaaGreatDoor
open Go.ChangeShapes Go.WideShapes Go.ChangeAt Go.RowKit Go.Joins Go.Deep
set_option maxRecDepth 100000
section
variable {H : Type} {enc : TypeId × Value → H} {w : World}

theorem c3 : Tryz.prog.cellsOf 3 = 1 := by kernel_rfl
end
end Go.Proofs.YthachfkcgdfdfaaGreatDoor

/- A world for the witness of a row; the witness's arguments. -/
namespace Go.Proofs.YthachfkcgdfdfaaGreatDoor
open Go.ChangeShapes Go.WideShapes Go.ChangeAt Go.RowKit Go.Joins Go.Deep
set_option maxRecDepth 100000

def litV : DataW Unit → Value
 | .lit (.int k n) => .int k n
 | _ => .bool false
def rowV : DataW Unit → Array Value
 | .agg l => (l.map litV).toArray
 | _ => #[]

end Go.Proofs.YthachfkcgdfdfaaGreatDoor
/- L1 · L2 · L4 -/
/- Walks of the lexer: classes of bytes, 'at', 'while'. -/
namespace Go.Proofs.YthachfkcgdfdfaaGreatDoor
open Go.RowKit Classical

/-- The class of a byte. -/
def classOf (c : Nat) : Int :=
 if 97 ≤ c ∧ c ≤ 122 ∨ 65 ≤ c ∧ c ≤ 90 then 3 else if 48 ≤ c ∧ c ≤ 57 then 4 else if c = 95 then 5 else if c = 32 ∨ c = 9 ∨ c = 10 then 1 else if c = 35 then 2 else if c = 34 then 6
 else if c = 33 then 7 else if c = 60 ∨ c = 62 then 8 else if [59, 44, 46, 58, 40, 41, 91, 93, 123, 125, 61, 43, 45].contains c then 9 else 0
def classAt (l : List UInt8) (i : Nat) : Int := match l[i]? with
 | some c => classOf c.toNat
 | none => 0

/-- Block b is a scanner of the text s. -/
structure ScanAt (w : World) (b : Nat) (s : ByteArray) : Prop where
 text : w.cell? ⟨b, 0, none⟩ = some (.string s)
 cls : ∀ c, c < 256 → w.cell? ⟨b, 1 + c, none⟩ = some (.int .i64 (classOf c))
theorem ScanAt.below {w w' : World} {b B : Nat} {s : ByteArray} (h : ScanAt w b s) (hb : Below B w w') (hB : b < B) : ScanAt w' b s :=
 ⟨(hb.cell (p := ⟨b, 0, none⟩) hB).trans h.text, fun c hc => (hb.cell (p := ⟨b, 1 + c, none⟩) hB).trans (h.cls c hc)⟩
theorem ScanAt.drewN {w : World} {b : Nat} {s : ByteArray} (h : ScanAt w b s) (n : Nat) : ScanAt (w.drewN n) b s := ⟨h.text, h.cls⟩

set_option maxRecDepth 100000 in
set_option maxHeartbeats 1000000 in
theorem at_any (b : Nat) (s : ByteArray) (i : Nat) (_hs : s.size ≤ maxLen) (w : World) (h : ScanAt w b s) :
  Calls Tryz.prog 194 #[.pointer (some ⟨b, 0, none⟩), .int .i64 i] w fun e w' => e = .returned (.int .i64 (classAt (bl s) i)) ∧ ∃ q, w' = w.drewN q := by
 unfold maxLen at _hs
 have ht := h.text
 go_enter Tryz.func194, Tryz.ntmps194
 by_cases hi : i < s.size
 ·have hb8 : s[i].toNat < 256 := s[i].toNat_lt
  have hc := h.cls s[i].toNat hb8
  have hg := Lib.hid (bl_get s i hi)
  go_wp2_with fail
  go_quiet (fail)
  go_wp2
  go_ret
  exact ⟨ret_int (by rw [classAt, hg.out]), _, rfl⟩
 ·have hg : (bl s)[i]? = none := List.getElem?_eq_none (by rw [bl_length]; omega)
  have Hg := Lib.hid hg
  clear hg
  go_wp2
  go_ret
  exact ⟨ret_int (by rw [classAt, Hg.out]), 0, rfl⟩

end Go.Proofs.YthachfkcgdfdfaaGreatDoor

/- Walks: slices.Index, slices.Contains at ints; the lexer's 'while'. -/
namespace Go.Proofs.YthachfkcgdfdfaaGreatDoor
open Go.RowKit Classical

def idxI (zs : List Int) (x : Int) : Int := if x ∈ zs then (zs.idxOf x : Nat) else -1
theorem idxI_at {zs : List Int} {x : Int} {k : Nat} (h : zs[k]? = some x) (hb : ∀ (j : Nat) y, j < k → zs[j]? = some y → y ≠ x) : idxI zs x = k := by
 have hm := List.mem_of_getElem? h
 rw [idxI, if_pos hm]
 congr 1
 have h1 : zs.idxOf x < zs.length := List.idxOf_lt_length_of_mem hm
 have h2 : zs[zs.idxOf x]? = some x := by rw [List.getElem?_eq_getElem h1, List.getElem_idxOf]
 rcases Nat.lt_trichotomy (zs.idxOf x) k with hlt | heq | hgt
 ·exact absurd rfl (hb _ _ hlt h2)
 ·exact heq
 ·exfalso
  have : ∀ (l : List Int) (k : Nat), l[k]? = some x → l.idxOf x ≤ k := by
   intro l
   induction l with
   | nil => intro k h; simp at h
   | cons a l ih =>
    intro k h
    rw [List.idxOf_cons]
    cases hax : a == x with
    | true => simp
    | false =>
     cases k with
     | zero => simp at h; simp [h] at hax
     | succ k => rw [List.getElem?_cons_succ] at h; have := ih k h; simp; omega
  have := this zs k h
  omega

set_option maxRecDepth 100000 in
set_option maxHeartbeats 1000000 in
theorem IndexInt_any (zs : List Int) (a : Option Addr) (c : Nat) (x : Int) (B : Nat) (hz : zs.length ≤ maxLen) (w : World) (h : RowAt w B a (nums zs)) :
  Calls Tryz.prog 253 #[.slice a zs.length c, .int .i64 x] w fun e w' => e = .returned (.int .i64 (idxI zs x)) ∧ w' = w := by
 unfold maxLen at hz
 go_enter Tryz.func253, Tryz.ntmps253
 go_wp2_with fail
 go_loop [8] (fun i => ∃ k : Nat, k ≤ zs.length ∧ i = .int .i64 k ∧ (∀ (j : Nat) y, j < k → zs[j]? = some y → y ≠ x)) (fun i => zs.length - (intOf i).toNat)
 case atStart => exact ⟨0, Nat.zero_le _, rfl, by simp⟩
 case round =>
  obtain ⟨k, hk, rfl, hno⟩ := hrel
  have Hno := Lib.hid hno
  clear hno
  by_cases hkl : k < zs.length
  ·obtain ⟨g, o, rfl, hg, hc⟩ := h.nums (by omega)
   have c0 := hc k hkl
   clear hc
   by_cases he : zs[k] = x
   ·have d1 : (x == zs[k]) = true := by simp [he]
    have He := Lib.hid he
    clear he
    go_wp2
    go_ret
    exact ⟨ret_int (idxI_at (by rw [List.getElem?_eq_getElem hkl, He.out]) Hno.out).symm, rfl⟩
   ·have d1 : (x == zs[k]) = false := by simp [Ne.symm he]
    have He := Lib.hid he
    clear he
    go_wp2
    refine ⟨⟨k + 1, by omega, by go_num, fun j y hj hy => ?_⟩, by simp [intOf]; omega⟩
    rcases Nat.lt_succ_iff_lt_or_eq.1 hj with hj | rfl
    ·exact Hno.out j y hj hy
    ·rw [List.getElem?_eq_getElem hkl] at hy; obtain rfl := Option.some.inj hy; exact He.out
  ·go_wp2
   go_ret
   refine ⟨ret_int ?_, rfl⟩
   rw [idxI, if_neg]
   intro hm
   obtain ⟨j, hj, hje⟩ := List.getElem_of_mem hm
   exact Hno.out j _ (by omega) (List.getElem?_eq_getElem hj) hje

set_option maxHeartbeats 400000 in
theorem ContainsInt_any (zs : List Int) (a : Option Addr) (c : Nat) (x : Int) (B : Nat) (hz : zs.length ≤ maxLen) (w : World) (h : RowAt w B a (nums zs)) :
  Calls Tryz.prog 223 #[.slice a zs.length c, .int .i64 x] w fun e w' => e = .returned (.bool (zs.contains x)) ∧ w' = w := by
 go_enter Tryz.func223, Tryz.ntmps223
 go_wp2_with fail
 refine (IndexInt_any zs a c x B hz w h).mono ?_
 rintro e w1 ⟨rfl, rfl⟩
 by_cases hm : x ∈ zs
 ·have e1 : idxI zs x = ((zs.idxOf x : Nat) : Int) := by rw [idxI, if_pos hm]
  have e2 : zs.contains x = true := by simpa using hm
  rw [e1]
  have E := Lib.hid e2
  clear e1 e2
  go_wp2
  go_ret
  exact ⟨ret_bool (by rw [E.out]), rfl⟩
 ·have e1 : idxI zs x = -1 := by rw [idxI, if_neg hm]
  have e2 : zs.contains x = false := by rw [← Bool.not_eq_true]; simpa using hm
  rw [e1]
  have E := Lib.hid e2
  clear e1 e2
  go_wp2
  go_ret
  exact ⟨ret_bool (by rw [E.out]), rfl⟩

/-- Where the bytes of some classes end that stand from i on. -/
def whileF (l : List UInt8) (cls : List Int) (i : Nat) : Nat := i + ((l.drop i).takeWhile fun c => cls.contains (classOf c.toNat)).length

theorem whileF_step {l : List UInt8} {cls : List Int} {i : Nat} {c : UInt8} (h : l[i]? = some c) (hc : cls.contains (classOf c.toNat) = true) : whileF l cls i = whileF l cls (i + 1) := by
 obtain ⟨hi, rfl⟩ := List.getElem?_eq_some_iff.1 h
 unfold whileF
 rw [List.drop_eq_getElem_cons hi, List.takeWhile_cons, if_pos hc]
 simp; omega
theorem whileF_stop {l : List UInt8} {cls : List Int} {i : Nat} {c : UInt8} (h : l[i]? = some c) (hc : cls.contains (classOf c.toNat) = false) : whileF l cls i = i := by
 obtain ⟨hi, rfl⟩ := List.getElem?_eq_some_iff.1 h
 unfold whileF
 rw [List.drop_eq_getElem_cons hi, List.takeWhile_cons, if_neg (by rw [hc]; simp)]
 rfl
theorem whileF_end {l : List UInt8} {cls : List Int} {i : Nat} (h : l.length ≤ i) : whileF l cls i = i := by
 unfold whileF
 rw [List.drop_of_length_le h]; rfl

set_option maxRecDepth 100000 in
set_option maxHeartbeats 1000000 in
theorem while_any (b : Nat) (s : ByteArray) (i : Nat) (cls : List Int) (ca : Option Addr) (cc : Nat) (hcl : cls.length ≤ maxLen) (hi : i ≤ s.size) (hs : s.size ≤ maxLen) (w : World) (h : ScanAt w b s) (B : Nat) (hc : RowAt w B ca (nums cls)) :
  Calls Tryz.prog 193 #[.pointer (some ⟨b, 0, none⟩), .int .i64 i, .slice ca cls.length cc] w fun e w' => e = .returned (.int .i64 (whileF (bl s) cls i)) ∧ ∃ q, w' = w.drewN q := by
 have hs2 := hs
 unfold maxLen at hs2
 go_enter Tryz.func193, Tryz.ntmps193
 go_wp2_with fail
 go_loopw [1] (fun c1 wr => ∃ k : Nat, k ≤ s.size ∧ c1 = .int .i64 k ∧ whileF (bl s) cls i = whileF (bl s) cls k ∧ ∃ q, wr = w.drewN q) (fun c1 _ => s.size - (intOf c1).toNat)
 case atStart => exact ⟨i, hi, rfl, rfl, 0, rfl⟩
 case round =>
  obtain ⟨k, hk, rfl, hw, q, rfl⟩ := hrel
  have Hw := Lib.hid hw
  have ht := (h.drewN q).text
  clear hw
  by_cases hkl : k < s.size
  ·have hg := Lib.hid (bl_get s k hkl)
   go_wp2_with (first
    | (go_at_call 194; refine (at_any b s k hs _ (h.drewN q)).mono ?_; rintro e w1 ⟨rfl, q1, rfl⟩)
    | (go_at_call 223; refine (ContainsInt_any cls ca cc _ B hcl _ (hc.drewN _)).mono ?_; rintro e w1 ⟨rfl, rfl⟩))
   case roundEnd =>
    rename_i hm
    have hcc : cls.contains (classOf s[k].toNat) = true := by
     rw [classAt, hg.out] at hm
     simpa using hm
    exact ⟨⟨k + 1, by omega, by go_num, by rw [Hw.out, whileF_step hg.out hcc], _, rfl⟩, by simp [intOf]; omega⟩
   all_goals (
    rename_i hm
    have hcc : cls.contains (classOf s[k].toNat) = false := by
     rw [classAt, hg.out] at hm
     rw [← Bool.not_eq_true]
     simpa using hm
    go_ret
    exact ⟨ret_int (by rw [Hw.out, whileF_stop hg.out hcc]), _, rfl⟩)
  ·go_wp2
   go_ret
   exact ⟨ret_int (by rw [Hw.out, whileF_end (by rw [bl_length]; omega)]), q, rfl⟩

end Go.Proofs.YthachfkcgdfdfaaGreatDoor

/- Walks: the lexer's classes of bytes. -/
namespace Go.Proofs.YthachfkcgdfdfaaGreatDoor
open Go.RowKit Classical

def cellsI (g : List Int) : Array Value := (g.map (Value.int .i64)).toArray
def setAll (g : List Int) (s : List UInt8) (c : Int) : List Int := s.foldl (fun g b => g.set b.toNat c) g
theorem setAll_length (s : List UInt8) (c : Int) : ∀ g : List Int, (setAll g s c).length = g.length := by
 induction s with
 | nil => intro g; rfl
 | cons a s ih => intro g; show (setAll (g.set a.toNat c) s c).length = _; rw [ih]; simp
theorem setAll_snoc (g : List Int) (s : List UInt8) (a : UInt8) (c : Int) : setAll g (s ++ [a]) c = (setAll g s c).set a.toNat c := by
 simp [setAll]
theorem cellsI_set (g : List Int) (i : Nat) (c : Int) : (cellsI g).setIfInBounds i (.int .i64 c) = cellsI (g.set i c) := by
 simp [cellsI]
theorem cellsI_get (g : List Int) (i : Nat) (h : i < g.length) : (cellsI g)[i]? = some (.int .i64 g[i]) := by
 simp [cellsI, h]

set_option maxRecDepth 100000 in
set_option maxHeartbeats 1000000 in
theorem set_any (b : Nat) (g : List Int) (hg : g.length = 256) (s : ByteArray) (hs : s.size ≤ maxLen) (c : Int) (w : World) (h : Blk w b (cellsI g) 194) :
  Calls Tryz.prog 192 #[.string s, .int .i64 c, .pointer (some ⟨b, 0, none⟩)] w fun e w' => e = .returned (.tuple #[]) ∧ Blk w' b (cellsI (setAll g (bl s) c)) 194 ∧ Below b w w' := by
 unfold maxLen at hs
 go_enter Tryz.func192, Tryz.ntmps192
 go_wp2_with fail
 go_loopw [5] (fun c1 wr => ∃ k : Nat, k ≤ s.size ∧ c1 = .int .i64 k ∧ Blk wr b (cellsI (setAll g ((bl s).take k) c)) 194 ∧ Below b w wr) (fun c1 _ => s.size - (intOf c1).toNat)
 case atStart => exact ⟨0, Nat.zero_le _, rfl, h, Below.refl _ _⟩
 case round =>
  obtain ⟨k, hk, rfl, hb, hw⟩ := hrel
  obtain ⟨G, hG⟩ : ∃ G, setAll g ((bl s).take k) c = G := ⟨_, rfl⟩
  have hGl : G.length = 256 := by rw [← hG, setAll_length, hg]
  rw [hG] at hb
  have HG := Lib.hid hG
  have Hb := Lib.hid hb
  clear hG
  by_cases hkl : k < s.size
  ·have hb8 : s[k].toNat < 256 := s[k].toNat_lt
   have hc0 := hb.cell s[k].toNat
   rw [cellsI_get G _ (by omega)] at hc0
   have hf0 := hb.frozen s[k].toNat
   have hgt := bl_get s k hkl
   have HT : Hid (setAll g ((bl s).take (k + 1)) c = G.set s[k].toNat c) := Lib.hid (by
    rw [List.take_add_one, hgt, ← HG.out]
    exact setAll_snoc _ _ _ _)
   clear hgt hb
   go_wp2
   refine ⟨⟨k + 1, by omega, by go_num, ?_, hw.setCell (Nat.le_refl _) _⟩, by simp [intOf]; omega⟩
   rw [HT.out, ← cellsI_set]
   exact Hb.out.set_ _ _
  ·clear hb
   obtain rfl : k = s.size := by omega
   go_wp2
   refine bodyPost_end (v := .tuple #[]) (by simp [results, Tryz.results192, go_sem]) rfl ?_
   refine ⟨rfl, ?_, hw⟩
   have := Hb.out
   rw [← HG.out, List.take_of_length_le (by rw [bl_length]; exact Nat.le_refl _)] at this
   exact this

def clsL : List Int := (List.range 256).map classOf
def w1L : List UInt8 := [97, 98, 99, 100, 101, 102, 103, 104, 105, 106, 107, 108, 109, 110, 111, 112, 113, 114, 115, 116, 117, 118, 119, 120, 121, 122, 65, 66, 67, 68, 69, 70, 71, 72, 73, 74, 75, 76, 77, 78, 79, 80, 81, 82, 83, 84, 85, 86, 87, 88, 89, 90]
theorem classes_law : setAll (setAll (setAll (setAll (setAll (setAll (setAll (setAll (setAll (List.replicate 256 0) w1L 3) [48, 49, 50, 51, 52, 53, 54, 55, 56, 57] 4) [95] 5) [32, 9, 10] 1) [35] 2) [34] 6) [33] 7) [60, 62] 8) [59, 44, 46, 58, 40, 41, 91, 93, 123, 125, 61, 43, 45] 9 = clsL := by
 decide +kernel

set_option maxRecDepth 100000 in
set_option maxHeartbeats 1000000 in
theorem classes_any (w : World) :
  Calls Tryz.prog 133 #[] w fun e w' => e = .returned (.agg (cellsI clsL)) ∧ Below w.heap.size w w' := by
 go_enter Tryz.func133, Tryz.ntmps133
 go_wp2_with fail
 have hz : Tryz.zeroCells194 = cellsI (List.replicate 256 0) := by kernel_rfl
 have h0 : Blk ((w.alloc (Obj.cells Tryz.zeroCells194 194)).alloc (Obj.cells Tryz.zeroCells194 194)) (w.heap.size + 1) (cellsI (List.replicate 256 0)) 194 := by
  have := Blk.new (w.alloc (Obj.cells Tryz.zeroCells194 194)) Tryz.zeroCells194 194
  rw [show (w.alloc (Obj.cells Tryz.zeroCells194 194)).heap.size = w.heap.size + 1 from by simp] at this
  rw [← hz]; exact this
 have hr0 : Blk ((w.alloc (Obj.cells Tryz.zeroCells194 194)).alloc (Obj.cells Tryz.zeroCells194 194)) w.heap.size Tryz.zeroCells194 194 := (Blk.new w _ _).alloc _
 have hb0 : Below w.heap.size w ((w.alloc (Obj.cells Tryz.zeroCells194 194)).alloc (Obj.cells Tryz.zeroCells194 194)) := ((Below.refl _ w).alloc (Nat.le_refl _) _).alloc (by simp) _
 generalize hw0 : (w.alloc (Obj.cells Tryz.zeroCells194 194)).alloc (Obj.cells Tryz.zeroCells194 194) = v0 at h0 hr0 hb0
 clear hw0 hz
 generalize e0 : List.replicate 256 (0 : Int) = g0 at h0
 have l0 : g0.length = 256 := by rw [← e0, List.length_replicate]
 have E0 := Lib.hid e0
 clear e0
 refine (set_any _ _ l0 _ ?s0 _ _ h0).mono ?_
 case s0 => decide
 rintro e v1 ⟨rfl, h1, k1⟩
 generalize e1 : setAll g0 _ _ = g1 at h1
 have l1 : g1.length = 256 := by rw [← e1, setAll_length, l0]
 have E1 := Lib.hid e1
 clear e1
 go_wp2_with fail
 refine (set_any _ _ l1 _ ?s1 _ _ h1).mono ?_
 case s1 => decide
 rintro e v2 ⟨rfl, h2, k2⟩
 generalize e2 : setAll g1 _ _ = g2 at h2
 have l2 : g2.length = 256 := by rw [← e2, setAll_length, l1]
 have E2 := Lib.hid e2
 clear e2
 go_wp2_with fail
 refine (set_any _ _ l2 _ ?s2 _ _ h2).mono ?_
 case s2 => decide
 rintro e v3 ⟨rfl, h3, k3⟩
 generalize e3 : setAll g2 _ _ = g3 at h3
 have l3 : g3.length = 256 := by rw [← e3, setAll_length, l2]
 have E3 := Lib.hid e3
 clear e3
 go_wp2_with fail
 refine (set_any _ _ l3 _ ?s3 _ _ h3).mono ?_
 case s3 => decide
 rintro e v4 ⟨rfl, h4, k4⟩
 generalize e4 : setAll g3 _ _ = g4 at h4
 have l4 : g4.length = 256 := by rw [← e4, setAll_length, l3]
 have E4 := Lib.hid e4
 clear e4
 go_wp2_with fail
 refine (set_any _ _ l4 _ ?s4 _ _ h4).mono ?_
 case s4 => decide
 rintro e v5 ⟨rfl, h5, k5⟩
 generalize e5 : setAll g4 _ _ = g5 at h5
 have l5 : g5.length = 256 := by rw [← e5, setAll_length, l4]
 have E5 := Lib.hid e5
 clear e5
 go_wp2_with fail
 refine (set_any _ _ l5 _ ?s5 _ _ h5).mono ?_
 case s5 => decide
 rintro e v6 ⟨rfl, h6, k6⟩
 generalize e6 : setAll g5 _ _ = g6 at h6
 have l6 : g6.length = 256 := by rw [← e6, setAll_length, l5]
 have E6 := Lib.hid e6
 clear e6
 go_wp2_with fail
 refine (set_any _ _ l6 _ ?s6 _ _ h6).mono ?_
 case s6 => decide
 rintro e v7 ⟨rfl, h7, k7⟩
 generalize e7 : setAll g6 _ _ = g7 at h7
 have l7 : g7.length = 256 := by rw [← e7, setAll_length, l6]
 have E7 := Lib.hid e7
 clear e7
 go_wp2_with fail
 refine (set_any _ _ l7 _ ?s7 _ _ h7).mono ?_
 case s7 => decide
 rintro e v8 ⟨rfl, h8, k8⟩
 generalize e8 : setAll g7 _ _ = g8 at h8
 have l8 : g8.length = 256 := by rw [← e8, setAll_length, l7]
 have E8 := Lib.hid e8
 clear e8
 go_wp2_with fail
 refine (set_any _ _ l8 _ ?s8 _ _ h8).mono ?_
 case s8 => decide
 rintro e v9 ⟨rfl, h9, k9⟩
 generalize e9 : setAll g8 _ _ = g9 at h9
 have l9 : g9.length = 256 := by rw [← e9, setAll_length, l8]
 have E9 := Lib.hid e9
 clear e9
 go_wp2_with fail
 have hL : Blk v9 (w.heap.size + 1) (cellsI clsL) 194 := by
  rw [← E9.out, ← E8.out, ← E7.out, ← E6.out, ← E5.out, ← E4.out, ← E3.out, ← E2.out, ← E1.out, ← E0.out] at h9
  rw [← classes_law]
  exact h9
 have hr : Blk v9 w.heap.size Tryz.zeroCells194 194 := (((((((((hr0.below k1 (by omega)).below k2 (by omega)).below k3 (by omega)).below k4 (by omega)).below k5 (by omega)).below k6 (by omega)).below k7 (by omega)).below k8 (by omega)).below k9 (by omega))
 clear h0 h1 h2 h3 h4 h5 h6 h7 h8 h9
 have hbT : Below w.heap.size w v9 := hb0.trans ((((((((((k1.trans (k2.mono (Nat.le_refl _))).trans (k3.mono (Nat.le_refl _))).trans (k4.mono (Nat.le_refl _))).trans (k5.mono (Nat.le_refl _))).trans (k6.mono (Nat.le_refl _))).trans (k7.mono (Nat.le_refl _))).trans (k8.mono (Nat.le_refl _))).trans (k9.mono (Nat.le_refl _)))).mono (by omega))
 generalize hC : cellsI clsL = C at hL
 have hCs : C.size = 256 := by rw [← hC]; rfl
 have hCo : C.all (·.oneCell') = true := by rw [← hC]; kernel_rfl
 have hinf : (Tryz.prog.info? 194).map (·.size) = some C.size := by rw [hCs]; kernel_rfl
 refine wp_load_row 194 (.tmp 1) rfl (w.heap.size + 1) rfl 194 C (0, 0) (.array 256 3) hL rfl rfl hinf ?_
 have hzs : Tryz.zeroCells194.size = C.size := by rw [hCs]; rfl
 go_wp2_with fail
 have hst := run_storeCells_from (P := Tryz.prog) w.heap.size 194 C.toList 0 Tryz.zeroCells194 v9 hr (by rw [hzs]; simp) (fun v hv => (Array.all_eq_true_iff_forall_mem.1 hCo) v (by simpa using hv))
 rw [hst]
 simp only [Result.andThen_ok]
 rw [Oper.upon_skip]
 have hrow : (v9.setRow w.heap.size (Tryz.zeroCells194.toList.take 0 ++ C.toList).toArray).heap[w.heap.size]? = some (.cells C 194 (0, 0)) := by
  have := setRow_heap v9 w.heap.size Tryz.zeroCells194 (Tryz.zeroCells194.toList.take 0 ++ C.toList).toArray 194 _ hr
  simpa using this
 have hbR : Below w.heap.size w (v9.setRow w.heap.size (Tryz.zeroCells194.toList.take 0 ++ C.toList).toArray) := below_setRow hbT (Nat.le_refl _) _
 generalize v9.setRow w.heap.size (Tryz.zeroCells194.toList.take 0 ++ C.toList).toArray = vR at hrow hbR ⊢
 clear hst hzs hr hL
 go_wp2_with fail
 refine bodyPost_ret (v := .agg C) (results_cell_row rfl _ _ w.heap.size 194 C (0, 0) (.array 256 3) rfl hrow rfl rfl hinf) rfl ?_
 exact ⟨by rw [hC], hbR⟩

end Go.Proofs.YthachfkcgdfdfaaGreatDoor
/- A1 · A2 -/
/- Walks of the alphabet: what can be a letter; which texts can begin letters. -/
namespace Go.Proofs.YthachfkcgdfdfaaGreatDoor
open Go.RowKit Classical

set_option maxRecDepth 100000 in
set_option maxHeartbeats 400000 in
theorem printed_any (s : ByteArray) (w : World) (hs : s.size ≤ maxLen) :
  Calls Tryz.prog 144 #[.string s] w fun e w' => e = .returned (.bool (decide (Plain11 s 1 3))) ∧ w = w' := by
 unfold maxLen at hs
 go_enter Tryz.func144, Tryz.ntmps144
 go_wp2
 go_loop [3] (fun i => ∃ j : Nat, j ≤ s.size ∧ i = .int .i64 j ∧ ((bl s).take j).all printC = true) (fun i => s.size - (intOf i).toNat)
 case atStart => exact ⟨0, Nat.zero_le _, rfl, rfl⟩
 case round =>
  obtain ⟨j, hj, rfl, hall⟩ := hrel
  have Hall := Lib.hid hall
  clear hall
  by_cases hjl : j < s.size
  ·have hg := Lib.hid (bl_get _ j hjl)
   have hbad : printC s[j] = false → ¬ Plain11 s 1 3 := fun hp hf => by
    have := hf.1
    rw [printB, all_false_of _ _ j _ hg.out hp] at this
    cases this
   have Hbad := Lib.hid hbad
   clear hbad
   go_wp2
   ·have h1 : (((s[j].toNat : Int) < 33 ∨ (126 : Int) < (s[j].toNat : Int)) ∨ ((s[j].toNat : Int) == 34) = true) := by assumption
    go_ret
    exact ⟨ret_no (Hbad.out (printC_no (by rcases h1 with (h | h) | h <;> simp [h]))), rfl⟩
   ·have h1 : (((33 : Int) ≤ (s[j].toNat : Int) ∧ (s[j].toNat : Int) ≤ 126) ∧ ((s[j].toNat : Int) == 34) = false) := by assumption
    refine ⟨⟨j + 1, by omega, by go_num, ?_⟩, by simp [intOf]; omega⟩
    rw [all_take_succ _ _ j _ hg.out, Hall.out, printC_yes h1.1.1 h1.1.2 h1.2]; rfl
   ·have h1 : (126 : Int) < (s[j].toNat : Int) := by assumption
    go_ret
    exact ⟨ret_no (Hbad.out (printC_no (.inr (.inl h1)))), rfl⟩
   ·have h1 : (s[j].toNat : Int) < 33 := by assumption
    go_ret
    exact ⟨ret_no (Hbad.out (printC_no (.inl h1))), rfl⟩
  ·have hpr : printB (bl s) = true := by
    have := Hall.out
    rwa [List.take_of_length_le (by rw [bl_length]; omega)] at this
   have Hpr := Lib.hid hpr
   clear hpr
   go_wp2
   all_goals
    go_ret
    refine ⟨ret_dec ?_, rfl⟩
    simp [Plain11, Hpr.out]
    try omega

end Go.Proofs.YthachfkcgdfdfaaGreatDoor

/- Walk of the alphabet's 'follows' (a function value that calls itself). -/
namespace Go.Proofs.YthachfkcgdfdfaaGreatDoor
open Go.RowKit Classical

theorem hasPrefix_dec (s p : ByteArray) : Lib.hasPrefix s.data.toList p.data.toList = decide (bl p <+: bl s) := by
 unfold Lib.hasPrefix bl
 rw [Bool.eq_iff_iff, List.isPrefixOf_iff_prefix]; simp
theorem cutPrefix_yes (s p : ByteArray) (h : bl p <+: bl s) (w : World) :
  Calls Tryz.prog 142 #[.string s, .string p] w fun e w' => e = .returned (.tuple #[.string (s.extract p.size s.size), .bool true]) ∧ w' = w :=
 (Tryz.strings_CutPrefix s p w).mono fun e w' hh => by
  have h1 : Lib.hasPrefix s.data.toList p.data.toList = true := by rw [hasPrefix_dec]; simpa using h
  refine ⟨hh.1.trans ?_, hh.2⟩
  rw [h1]
  have h2 : (⟨(Lib.trimPrefix s.data.toList p.data.toList).toArray⟩ : ByteArray) = s.extract p.size s.size := by
   refine bl_inj ?_
   unfold bl
   rw [Lib.extract_data, List.take_of_length_le (by simp), Lib.trimPrefix, if_pos h1]
   simp
  rw [h2]
theorem cutPrefix_no (s p : ByteArray) (h : ¬ bl p <+: bl s) (w : World) :
  Calls Tryz.prog 142 #[.string s, .string p] w fun e w' => e = .returned (.tuple #[.string s, .bool false]) ∧ w' = w :=
 (Tryz.strings_CutPrefix s p w).mono fun e w' hh => by
  have h1 : Lib.hasPrefix s.data.toList p.data.toList = false := by rw [hasPrefix_dec]; simpa using h
  refine ⟨hh.1.trans ?_, hh.2⟩
  rw [h1]
  have h2 : (⟨(Lib.trimPrefix s.data.toList p.data.toList).toArray⟩ : ByteArray) = s := by
   refine bl_inj ?_
   unfold bl
   rw [Lib.trimPrefix, if_neg (by rw [h1]; simp)]
  rw [h2]
theorem hasPrefix_any (s p : ByteArray) (w : World) :
  Calls Tryz.prog 141 #[.string s, .string p] w fun e w' => e = .returned (.bool (decide (bl p <+: bl s))) ∧ w' = w :=
 (Tryz.strings_HasPrefix s p w).mono fun e w' hh => ⟨hh.1.trans (by rw [hasPrefix_dec]), hh.2⟩

/-- The letters of an alphabet as the call sees them: its box, and its row of letters. -/
structure AlphBox (w : World) (b : Nat) (A : Alph) : Prop where
 rows : ∃ la lc sa sc, Box w b [.string A.name, .slice la A.letters.length lc, .slice sa A.small.length sc] ∧ RowAt w b la (strs A.letters) ∧ RowAt w b sa (nums A.small)
theorem AlphBox.below {w w' : World} {b B : Nat} {A : Alph} (h : AlphBox w b A) (hb : Below B w w') (hB : b < B) : AlphBox w' b A := by
 obtain ⟨la, lc, sa, sc, h1, h2, h3⟩ := h
 exact ⟨la, lc, sa, sc, h1.below hb hB, h2.below hb (by omega), h3.below hb (by omega)⟩
theorem AlphBox.drewN {w : World} {b : Nat} {A : Alph} (h : AlphBox w b A) (n : Nat) : AlphBox (w.drewN n) b A := ⟨h.rows⟩
def followsV (ba bf : Nat) : Value := .func (.func 140) #[] #[.pointer (some ⟨ba, 0, none⟩), .pointer (some ⟨bf, 0, none⟩)]

set_option maxRecDepth 100000 in
set_option maxHeartbeats 1000000 in
theorem follows_any (A : Alph) (hpos : ∀ l ∈ A.letters, 1 ≤ l.size) (hlen : A.letters.length ≤ maxLen) (ba bf : Nat) : ∀ (n : Nat) (s : ByteArray), s.size < n → s.size ≤ maxLen → ∀ (w : World), AlphBox w ba A → Box w bf [followsV ba bf] →
  Calls Tryz.prog 140 #[.string s, .pointer (some ⟨ba, 0, none⟩), .pointer (some ⟨bf, 0, none⟩)] w fun e w' => e = .returned (.bool (decide (Follows A.bls (bl s)))) ∧ w' = w := by
 intro n
 induction n with
 | zero => intro s h; omega
 | succ n ih =>
 intro s hsn hs w h hf
 have hA := h
 obtain ⟨la, lc, sa, sc, hbox, hl, hsm⟩ := h
 have IH := Lib.hid ih
 clear ih
 have hs2 := hs
 unfold maxLen at hs hlen
 have c1 : w.cell? ⟨ba, 1, none⟩ = some (.slice la A.letters.length lc) := hbox 1 _ rfl
 have cf : w.cell? ⟨bf, 0, none⟩ = some (followsV ba bf) := hf 0 _ rfl
 unfold followsV at cf
 go_enter Tryz.func140, Tryz.ntmps140
 go_wp2_with fail
 go_loop [12] (fun i => ∃ k : Nat, k ≤ A.letters.length ∧ i = .int .i64 k ∧ (∀ i l, i < k → A.letters[i]? = some l → ¬ (bl s <+: bl l ∨ bl l <+: bl s ∧ Follows A.bls ((bl s).drop l.size)))) (fun i => A.letters.length - (intOf i).toNat)
 case atStart => exact ⟨0, Nat.zero_le _, rfl, by simp⟩
 case round =>
  obtain ⟨k, hk, rfl, hall⟩ := hrel
  have H := Lib.hid hall
  clear hall
  by_cases hlt : k < A.letters.length
  ·have hmem : bl A.letters[k] ∈ A.bls := List.mem_map_of_mem (List.getElem_mem hlt)
   obtain ⟨b, off, rfl, hb, hc⟩ := hl.strs (by omega)
   have c3 := hc k hlt
   clear hc
   by_cases h1 : bl s <+: bl A.letters[k]
   ·have H1 := Lib.hid h1
    go_wp2_with fail
    refine (hasPrefix_any _ _ _).mono ?_
    rintro e w' ⟨rfl, rfl⟩
    rw [decide_eq_true h1]
    clear h1
    go_wp2_with fail
    go_ret
    exact ⟨ret_yes ((follows_iff _ _).2 ⟨_, hmem, .inl H1.out⟩), rfl⟩
   ·have H1 := Lib.hid h1
    go_wp2_with fail
    refine (hasPrefix_any _ _ _).mono ?_
    rintro e w' ⟨rfl, rfl⟩
    rw [decide_eq_false h1]
    clear h1
    by_cases hp : bl A.letters[k] <+: bl s
    ·have hle : A.letters[k].size ≤ s.size := by have := hp.length_le; rwa [bl_length, bl_length] at this
     have hpos1 := hpos _ (List.getElem_mem hlt)
     have hx : (s.extract A.letters[k].size s.size).size < n := by simp; omega
     have hx2 : (s.extract A.letters[k].size s.size).size ≤ maxLen := by unfold maxLen; simp; omega
     have hx3 : bl (s.extract A.letters[k].size s.size) = (bl s).drop A.letters[k].size := by
      unfold bl; rw [Lib.extract_data, List.take_of_length_le (by simp)]
     have Hx3 := Lib.hid hx3
     have Hp := Lib.hid hp
     go_wp2_with fail
     refine (cutPrefix_yes _ _ hp _).mono ?_
     rintro e w' ⟨rfl, rfl⟩
     clear hx3 hp
     go_wp2_with fail
     refine (IH.out _ hx hx2 _ hA hf).mono ?_
     rintro e w1 ⟨rfl, rfl⟩
     rw [Hx3.out]
     by_cases hf : Follows A.bls ((bl s).drop A.letters[k].size)
     ·rw [decide_eq_true hf]
      go_wp2
      go_ret
      exact ⟨ret_yes ((follows_iff _ _).2 ⟨_, hmem, .inr ⟨_, append_of_prefix.2 ⟨Hp.out, rfl⟩, by rw [bl_length]; exact hf⟩⟩), rfl⟩
     ·rw [decide_eq_false hf]
      go_wp2
      refine ⟨⟨k + 1, by omega, by go_num, fun i l hi hl' => ?_⟩, by simp [intOf]; omega⟩
      rcases Nat.lt_succ_iff_lt_or_eq.1 hi with h | rfl
      ·exact H.out i l h hl'
      ·rw [List.getElem?_eq_getElem hlt] at hl'
       obtain rfl := Option.some.inj hl'
       rintro (h | h)
       ·exact H1.out h
       ·exact hf h.2
    ·have Hp := Lib.hid hp
     go_wp2_with fail
     refine (cutPrefix_no _ _ hp _).mono ?_
     rintro e w' ⟨rfl, rfl⟩
     clear hp
     go_wp2
     refine ⟨⟨k + 1, by omega, by go_num, fun i l hi hl' => ?_⟩, by simp [intOf]; omega⟩
     rcases Nat.lt_succ_iff_lt_or_eq.1 hi with h | rfl
     ·exact H.out i l h hl'
     ·rw [List.getElem?_eq_getElem hlt] at hl'
      obtain rfl := Option.some.inj hl'
      rintro (h | h)
      ·exact H1.out h
      ·exact Hp.out h.1
  ·go_wp2
   go_ret
   refine ⟨ret_no fun hf => ?_, rfl⟩
   obtain ⟨l, hl', h⟩ := (follows_iff _ _).1 hf
   obtain ⟨m, hm, rfl⟩ := List.mem_map.1 hl'
   obtain ⟨i, hi, hi'⟩ := List.getElem_of_mem hm
   refine H.out i m (by omega) (by rw [List.getElem?_eq_getElem hi, hi']) ?_
   rcases h with h | ⟨r, e, h⟩
   ·exact .inl h
   ·obtain ⟨e1, e2⟩ := append_of_prefix.1 e
    rw [bl_length] at e2
    exact .inr ⟨e1, e2 ▸ h⟩

end Go.Proofs.YthachfkcgdfdfaaGreatDoor
/- Walk: slices.Compact at arcs. -/
namespace Go.Proofs.YthachfkcgdfdfaaGreatDoor
open Go.RowKit Go.Lib Classical

instance : Inhabited Arc := ⟨⟨0, 0, 0, 0⟩⟩
theorem flat_at (l : List Arc) (t : Nat) (h : t < l.length * 4) : (flat l)[t]? = some ((l.toArray[t / 4]!).cells[t % 4]!) := by
 induction l generalizing t with
 | nil => simp at h
 | cons a l ih =>
  rw [flat_cons]
  rcases t with _ | _ | _ | _ | t
  ·rfl
  ·rfl
  ·rfl
  ·rfl
  ·have h1 : (t + 1 + 1 + 1 + 1) / 4 = t / 4 + 1 := by omega
   have h2 : (t + 1 + 1 + 1 + 1) % 4 = t % 4 := by omega
   have := ih t (by simp at h; omega)
   rw [h1, h2]
   simpa using this
/-- Arcs in order, each once. -/
theorem arr_get (S : List Arc) (m : Nat) (h : m < S.length) : S.toArray[m]! = S[m] := by rw [getElem!_pos _ _ (by simpa using h)]; simp
theorem compact_mem {S : List Arc} (x : Arc) : x ∈ compact S ↔ x ∈ S := by
 have key : ∀ m, m ≤ S.length → (x ∈ compactUpTo S.toArray m ↔ x ∈ S.take m) := by
  intro m
  induction m with
  | zero => intro _; simp [compactUpTo]
  | succ m ih =>
   intro hm
   have hg := arr_get S m (by omega)
   rw [compactUpTo_succ, List.mem_append, ih (by omega), mem_take_succ S m (by omega)]
   by_cases hk : keeps S.toArray m = true
   ·rw [if_pos hk, List.mem_singleton, hg]
   ·rw [if_neg hk]
    simp only [keeps, decide_eq_true_eq, not_or, Classical.not_not] at hk
    obtain ⟨h0, h1⟩ := hk
    rw [hg, arr_get S (m - 1) (by omega)] at h1
    constructor
    ·rintro (h | h)
     ·exact .inl h
     ·simp at h
    ·rintro (h | h)
     ·exact .inl h
     ·refine .inl ?_
      rw [h, h1]
      exact List.mem_take_iff_getElem.2 ⟨m - 1, by omega, rfl⟩
 unfold compact
 rw [key S.length (Nat.le_refl _), List.take_length]
theorem compact_inc {S : List Arc} (h : S.Pairwise (fun a b => ¬ b.lt a)) : Increasing (compact S) := by
 have hp := List.pairwise_iff_getElem.1 h
 have key : ∀ m, m ≤ S.length → Increasing (compactUpTo S.toArray m) ∧ ∀ y ∈ compactUpTo S.toArray m, ∃ j, ∃ hj : j < S.length, j < m ∧ y = S[j] := by
  intro m
  induction m with
  | zero => intro _; exact ⟨by simp [compactUpTo, Increasing], by simp [compactUpTo]⟩
  | succ m ih =>
   intro hm
   obtain ⟨h1, h2⟩ := ih (by omega)
   have hg := arr_get S m (by omega)
   rw [compactUpTo_succ]
   by_cases hk : keeps S.toArray m = true
   ·rw [if_pos hk]
    refine ⟨List.pairwise_append.2 ⟨h1, by simp, fun y hy z hz => ?_⟩, fun y hy => ?_⟩
    ·obtain rfl : z = S[m] := by rw [← hg]; simpa using hz
     obtain ⟨j, hj, hjm, rfl⟩ := h2 y hy
     simp only [keeps, decide_eq_true_eq] at hk
     have hk' : S.toArray[m]! ≠ S.toArray[m - 1]! := hk.resolve_left (by omega)
     rw [hg, arr_get S (m - 1) (by omega)] at hk'
     have h3 := hp (m - 1) m (by omega) (by omega) (by omega)
     have h4 : (S[m - 1]'(by omega)).lt S[m] := by
      by_cases h5 : (S[m - 1]'(by omega)).lt S[m]
      ·exact h5
      ·exact absurd (Arc.eq_of_not_lt h3 h5) hk'
     rcases Nat.lt_or_ge j (m - 1) with h6 | h6
     ·have h7 := hp j (m - 1) hj (by omega) h6
      unfold Arc.lt at *; omega
     ·obtain rfl : j = m - 1 := by omega
      exact h4
    ·rcases List.mem_append.1 hy with hy | hy
     ·obtain ⟨j, hj, h3, h4⟩ := h2 y hy
      exact ⟨j, hj, by omega, h4⟩
     ·obtain rfl : y = S[m] := by rw [← hg]; simpa using hy
      exact ⟨m, by omega, by omega, rfl⟩
   ·rw [if_neg hk, List.append_nil]
    exact ⟨h1, fun y hy => by obtain ⟨j, hj, h3, h4⟩ := h2 y hy; exact ⟨j, hj, by omega, h4⟩⟩
 exact (key S.length (Nat.le_refl _)).1
theorem zeroCells_arcs (n : Nat) : (Builtin.zeroCells #[.int .i64 0, .int .i64 0, .int .i64 0, .int .i64 0] n).toList = flat (List.replicate n ⟨0, 0, 0, 0⟩) := by
 refine List.ext_getElem (by simp [Builtin.zeroCells, flat_length]) (fun i h1 h2 => ?_)
 have hi : i < n * 4 := by simpa [flat_length] using h2
 have := flat_at (List.replicate n ⟨0, 0, 0, 0⟩) i (by simpa using hi)
 rw [List.getElem?_eq_getElem h2] at this
 injection this with this
 have h4 : i / 4 < n := by omega
 have hz : (List.replicate n (⟨0, 0, 0, 0⟩ : Arc)).toArray[i / 4]! = ⟨0, 0, 0, 0⟩ := by rw [getElem!_pos _ _ (by simpa using h4)]; simp
 rw [this, hz]
 rcases (show i % 4 = 0 ∨ i % 4 = 1 ∨ i % 4 = 2 ∨ i % 4 = 3 by omega) with e | e | e | e <;> simp [Builtin.zeroCells, e, Arc.cells]
/-- 'clear(s)' of a row of arcs. -/
theorem run_clear_arcs (w : World) (ty : TypeId) (b o n c : Nat)
  (hc : ∀ j, j < n * 4 → (w.cell? ⟨b, o + j, none⟩).isSome = true) (hf : ∀ j, j < n * 4 → w.frozen? ⟨b, o + j, none⟩ = false) :
  (Builtin.clear_ #[94] ty #[.slice (some ⟨b, o, none⟩) n c]).run Tryz.prog w = .ok (.tuple #[]) (w.setCells b o (flat (List.replicate n ⟨0, 0, 0, 0⟩))) := by
 have hv : ∀ w, (zeroValue 177).run Tryz.prog w = .ok (.agg #[.int .i64 0, .int .i64 0, .int .i64 0, .int .i64 0]) w := fun w => by kernel_rfl
 have hst := run_storeCells_cells (P := Tryz.prog) b o (flat (List.replicate n ⟨0, 0, 0, 0⟩)) 0 w (by simpa [flat_length] using hc) (by simpa [flat_length] using hf) (by
  intro v hv'
  unfold flat at hv'
  obtain ⟨a, _, ha⟩ := List.mem_flatMap.1 hv'
  simp [Arc.cells] at ha
  rcases ha with rfl | rfl | rfl | rfl <;> rfl)
 simp only [Nat.add_zero] at hst
 cases n with
 | zero => simp [Builtin.clear_, run_underlying Tryz.underlying94, flat, World.setCells]
 | succ m => simp [Builtin.clear_, run_underlying Tryz.underlying94, hv, zeroCells_arcs, Value.cells, hst]

theorem row_take {w : World} {base g c n : Nat} {L R : List Arc} (h : w.ownsRow base 177 4 (.slice (some ⟨g, 0, none⟩) n c) n (flat (L ++ R))) : RowAt w w.heap.size (some ⟨g, 0, none⟩) (flat L) := fun _ =>
 ⟨g, 0, rfl, (h.lt g rfl).2, fun i x hx => by
  have hi := (List.getElem?_eq_some_iff.1 hx).1
  have h1 := h.1
  rw [flat_append, List.length_append] at h1
  rw [Nat.zero_add, h.cellAt _ (by omega), flat_append, List.getElem?_append_left hi, hx]⟩

theorem size_setCells' (b : Nat) : ∀ (vs : List Value) (o : Nat) (w : World), (w.setCells b o vs).heap.size = w.heap.size
 | [], _, _ => rfl
 | v :: vs, o, w => by
  show ((w.setCell ⟨b, o, none⟩ v).setCells b (o + 1) vs).heap.size = _
  rw [size_setCells' b vs]
  simp [World.setCell]
theorem chg_setCells (b : Nat) : ∀ (vs : List Value) (o : Nat) (w : World), Chg (· = b) w (w.setCells b o vs)
 | [], _, _ => Chg.refl _ _
 | v :: vs, o, w => (Chg.setCell (S := (· = b)) (p := ⟨b, o, none⟩) _ (.inl rfl) _).trans (chg_setCells b vs (o + 1) (w.setCell ⟨b, o, none⟩ v))

set_option maxRecDepth 100000 in
set_option maxHeartbeats 4000000 in
theorem Compact_arcs (S : List Arc) (g c base : Nat) (w : World) (hle : S.length ≤ 1000000000000000) (hown : w.ownsRow base 177 4 (.slice (some ⟨g, 0, none⟩) S.length c) S.length (flat S)) :
  Calls Tryz.prog 206 #[.slice (some ⟨g, 0, none⟩) S.length c] w fun e w' => e = .returned (.slice (some ⟨g, 0, none⟩) (compact S).length c) ∧ RowAt w' w'.heap.size (some ⟨g, 0, none⟩) (flat (compact S)) ∧ Chg (· = g) w w' := by
 have hcap : S.length ≤ c := by
  rcases hown.2 with ⟨e, _⟩ | ⟨g', cap, cur, e, _, _, hn, _⟩
  ·cases e
  ·injection e with _ _ e; subst e; exact hn
 have Hown := Lib.hid hown
 have same : (∀ j, j < S.length → keeps S.toArray j = true) → compact S = S := compact_all S
 have HS := Lib.hid same
 clear hown same
 by_cases h2 : S.length < 2
 ·go_enter Tryz.func206, Tryz.ntmps206
  go_wp2
  go_ret
  have e := HS.out (fun j hj => keeps_lt_one _ j (by omega))
  rw [e]
  exact ⟨rfl, row_take (R := []) (by rw [List.append_nil]; exact Hown.out), Chg.refl _ _⟩
 ·go_enter Tryz.func206, Tryz.ntmps206
  go_wp2_with fail
  go_loopw [3] (fun s3 wr => ∃ k : Nat, 1 ≤ k ∧ k ≤ S.length ∧ s3 = .int .i64 k ∧ wr.ownsRow base 177 4 (.slice (some ⟨g, 0, none⟩) S.length c) S.length (flat S) ∧ Below w.heap.size w wr ∧ ∀ j, j < k → keeps S.toArray j = true) (fun s3 _ => S.length - (intOf s3).toNat)
  case atStart => exact ⟨1, Nat.le_refl _, by omega, rfl, Hown.out, Below.refl _ _, keeps_lt_one _⟩
  case round =>
   obtain ⟨k, hk1, hk, rfl, hor, hbr, hall⟩ := hrel
   have HR := Lib.hid (And.intro hor (And.intro hbr hall))
   clear hor hbr hall
   obtain ⟨p, rfl⟩ : ∃ p, k = p + 1 := ⟨k - 1, by omega⟩
   by_cases hlt : p + 1 < S.length
   ·obtain ⟨y0, y1, y2, y3⟩ := own_arc_cells HR.out.1 p _ (List.getElem?_eq_getElem (by omega))
    obtain ⟨z0, z1, z2, z3⟩ := own_arc_cells HR.out.1 (p + 1) _ (List.getElem?_eq_getElem hlt)
    have hq := eql_arc S[p + 1] S[p]
    have hgd := guard_arc
    have hwp : IntKind.i64.wrap (p : Int) = p := IntWalk.i64_in _ (by omega)
    go_wp2_with fail
    go_quiet (fail)
    clear hwp y0 y1 y2 y3 z0 z1 z2 z3 hq hgd
    by_cases hdup : S[p + 1] = S[p]
    ·have d1 : decide (S[p + 1] = S[p]) = true := decide_eq_true hdup
     rw [d1]
     have HD := Lib.hid hdup
     clear hdup d1
     go_wp2_with fail
     go_loopw [3, 5] (fun s3 s5 wx => ∃ (kk k2 : Nat) (dk : Array Arc), s3 = .int .i64 kk ∧ s5 = .int .i64 k2 ∧ 1 ≤ k2 ∧ p + 1 + k2 ≤ S.length ∧ wx.ownsRow base 177 4 (.slice (some ⟨g, 0, none⟩) S.length c) S.length (flat dk.toList) ∧ Chg (· = g) w wx ∧ CompInv S.toArray (p + 1 + k2) kk dk) (fun _ s5 _ => S.length - (intOf s5).toNat)
     case atStart => exact ⟨p + 1, 1, S.toArray, rfl, rfl, Nat.le_refl _, by omega, HR.out.1, (Chg.of_below _ HR.out.2.1).trans (Chg.drewN _ _ _), CompInv.start HR.out.2.2 (keeps_neg (by omega) (by rw [arr_get S _ hlt, Nat.add_sub_cancel, arr_get S p (by omega)]; exact HD.out))⟩
     case round =>
      obtain ⟨kk, k2, dk, rfl, rfl, h1, hle2, hox, hcx, hI⟩ := hrel
      have hkk := hI.lt
      have hds : dk.size = S.length := by rw [hI.size]; simp
      have HX := Lib.hid (And.intro hox (And.intro hcx hI))
      clear hox hcx hI
      by_cases hlt2 : p + 1 + k2 < S.length
      ·have hj1 : dk.toList[p + 1 + k2]? = some S[p + 1 + k2] := by
        have := HX.out.2.2.high (p + 1 + k2) (by omega)
        rw [arr_get S _ hlt2, getElem!_pos dk _ (by omega)] at this
        rw [Array.getElem?_toList, Array.getElem?_eq_getElem (by omega), this]
       have hj0 : dk.toList[p + k2]? = some S[p + k2] := by
        have := HX.out.2.2.high (p + k2) (by omega)
        rw [arr_get S _ (by omega), getElem!_pos dk _ (by omega)] at this
        rw [Array.getElem?_toList, Array.getElem?_eq_getElem (by omega), this]
       obtain ⟨y0, y1, y2, y3⟩ := own_arc_cells HX.out.1 (p + k2) _ hj0
       obtain ⟨z0, z1, z2, z3⟩ := own_arc_cells HX.out.1 (p + 1 + k2) _ hj1
       have hq := neq_arc S[p + 1 + k2] S[p + k2]
       have hgd := guard_arc
       clear hj0 hj1
       obtain ⟨m, rfl⟩ : ∃ m, k2 = m + 1 := ⟨k2 - 1, by omega⟩
       rw [show (p + (m + 1)) * 4 = (p + 1) * 4 + m * 4 from by omega] at y0 y1 y2 y3
       rw [show (p + 1 + (m + 1)) * 4 = (p + 1) * 4 + (m + 1) * 4 from by omega] at z0 z1 z2 z3
       have hwp : IntKind.i64.wrap (m : Int) = m := IntWalk.i64_in _ (by omega)
       go_wp2_with fail
       go_quiet (fail)
       clear hwp hq hgd
       by_cases huv : S[p + 1 + (m + 1)] = S[p + (m + 1)]
       ·have d1 : (!decide (S[p + 1 + (m + 1)] = S[p + (m + 1)])) = false := by rw [decide_eq_true huv]; rfl
        rw [d1]
        have HU := Lib.hid huv
        clear huv d1
        go_wp2_with fail
        refine ⟨⟨kk, m + 2, dk, rfl, by go_num, by omega, by omega, HX.out.1, HX.out.2.1.trans (Chg.drewN _ _ _), ?_⟩, by simp [intOf]; omega⟩
        exact HX.out.2.2.skip (keeps_neg (by omega) (by rw [show p + 1 + (m + 1) - 1 = p + (m + 1) from by omega, arr_get S _ hlt2, arr_get S _ (by omega)]; exact HU.out))
       ·have d1 : (!decide (S[p + 1 + (m + 1)] = S[p + (m + 1)])) = true := by rw [decide_eq_false huv]; rfl
        rw [d1]
        have HU := Lib.hid huv
        clear huv d1
        obtain ⟨x0, x1, x2, x3⟩ := own_arc_cells HX.out.1 kk (dk[kk]'(by omega)) (by rw [Array.getElem?_toList, Array.getElem?_eq_getElem])
        have f0 := HX.out.1.frozenAt (kk * 4)
        have f1 := HX.out.1.frozenAt (kk * 4 + 1)
        have f2 := HX.out.1.frozenAt (kk * 4 + 2)
        have f3 := HX.out.1.frozenAt (kk * 4 + 3)
        go_wp2_with fail
        refine ⟨⟨kk + 1, m + 2, dk.setIfInBounds kk S[p + 1 + (m + 1)], by go_num, by go_num, by omega, by omega, ?_, ?_, ?_⟩, by simp [intOf]; omega⟩
        ·have := own_set_arc HX.out.1 kk S[p + 1 + (m + 1)] (by rw [Array.length_toList]; omega)
         rw [Array.toList_setIfInBounds]
         exact this
        ·exact (HX.out.2.1.trans (Chg.drewN _ _ _)).trans ((((Chg.setCell (S := (· = g)) (p := ⟨g, kk * 4, none⟩) _ (.inl rfl) _).trans (Chg.setCell (S := (· = g)) (p := ⟨g, kk * 4 + 1, none⟩) _ (.inl rfl) _)).trans (Chg.setCell (S := (· = g)) (p := ⟨g, kk * 4 + 2, none⟩) _ (.inl rfl) _)).trans (Chg.setCell (S := (· = g)) (p := ⟨g, kk * 4 + 3, none⟩) _ (.inl rfl) _))
        ·have := HX.out.2.2.keep (by simp; omega) (keeps_pos (by rw [show p + 1 + (m + 1) - 1 = p + (m + 1) from by omega, arr_get S _ hlt2, arr_get S _ (by omega)]; exact HU.out))
         rw [arr_get S _ hlt2] at this
         exact this
      ·have hend : p + 1 + k2 = S.length := by omega
       have hcl : ∀ ty, (Builtin.clear_ #[94] ty #[.slice (some ⟨g, kk * 4, none⟩) (S.length - kk) (c - kk)]).run Tryz.prog wr = .ok (.tuple #[]) (wr.setCells g (kk * 4) (flat (List.replicate (S.length - kk) ⟨0, 0, 0, 0⟩))) := fun ty => run_clear_arcs wr ty g (kk * 4) _ _ (fun j hj => by
        rw [HX.out.1.cellAt _ (by omega), List.getElem?_eq_getElem (by rw [flat_length, Array.length_toList]; omega)]; rfl) (fun j hj => HX.out.1.frozenAt _)
       have HE := Lib.hid hend
       clear hend
       go_wp2_with fail
       go_ret
       have hI := HX.out.2.2
       rw [HE.out] at hI
       have hlk : (compact S).length = kk := by unfold compact; simpa using hI.len
       have hsplit : dk.toList = compact S ++ dk.toList.drop kk := by
        conv => lhs; rw [← List.take_append_drop kk dk.toList]
        congr 1
        refine list_ext_to (by rw [List.length_take, Array.length_toList, hlk]; omega) (fun j hj => ?_)
        rw [List.length_take, Array.length_toList] at hj
        have h3 := hI.low j (by omega)
        have h4 : (compact S)[j]? = some dk[j]! := by unfold compact; simpa using h3
        rw [h4, List.getElem?_take, if_pos (by omega), Array.getElem?_toList, Array.getElem?_eq_getElem (by omega), getElem!_pos dk j (by omega)]
       have hro := row_take (w := wr) (L := compact S) (R := dk.toList.drop kk) (by rw [← hsplit]; exact HX.out.1)
       rw [hlk]
       refine ⟨rfl, fun h0 => ?_, HX.out.2.1.trans (chg_setCells _ _ _ _)⟩
       obtain ⟨b, off, e, hb, hx⟩ := hro h0
       injection e with e
       injection e with e1 e2
       subst e1 e2
       refine ⟨g, 0, rfl, by rw [size_setCells']; exact hb, fun i x hi => ?_⟩
       have hil := (List.getElem?_eq_some_iff.1 hi).1
       rw [flat_length, hlk] at hil
       rw [World.cell?_setCells_out g _ _ _ _ (fun _ _ => .inl (by show 0 + i < kk * 4; omega))]
       exact hx i x hi
    ·have d1 : decide (S[p + 1] = S[p]) = false := decide_eq_false hdup
     rw [d1]
     have HD := Lib.hid hdup
     clear hdup d1
     go_wp2_with fail
     refine ⟨⟨p + 2, by omega, by omega, by go_num, HR.out.1, HR.out.2.1.trans (Go.below_drewN (Below.refl _ _) _), fun j hj => ?_⟩, by simp [intOf]; omega⟩
     by_cases e : j = p + 1
     ·subst e
      exact keeps_pos (by rw [arr_get S _ hlt, Nat.add_sub_cancel, arr_get S p (by omega)]; exact HD.out)
     ·exact HR.out.2.2 j (by omega)
   ·have hall := HR.out.2.2
    have e : p + 1 = S.length := by omega
    have HE := Lib.hid e
    have HC := Lib.hid (HS.out (fun j hj => hall j (by omega)))
    clear hall e
    go_wp2
    go_ret
    rw [HC.out]
    exact ⟨rfl, row_take (R := []) (by rw [List.append_nil]; exact HR.out.1), Chg.of_below _ HR.out.2.1⟩
end Go.Proofs.YthachfkcgdfdfaaGreatDoor
/- A world for the witness of a row of layers 16 and 17: seven variables hold what their initialisers lay. -/
namespace Go.Proofs.YthachfkcgdfdfaaGreatDoor
open Go.ChangeShapes Go.WideShapes Go.ChangeAt Go.RowKit Go.Joins Go.Deep
set_option maxRecDepth 100000

def rowV2 : DataW Unit → Array Value
 | .agg l => (l.flatMap (fun d => match d with | .agg m => m.map litV | _ => [])).toArray
 | _ => #[]
/-- The settled world with two blocks more, the seven variables holding what their initialisers lay. -/
noncomputable def laidWorld17 (os : Os) : World :=
 let N := (World.settled Tryz.prog os).heap.size
 let w0 := World.holding Tryz.prog os ⟨#[.cells #[.string ⟨#[118, 97, 108, 117, 101, 32, 111, 117, 116, 32, 111, 102, 32, 114, 97, 110, 103, 101]⟩] 334, .cells #[.string ⟨#[105, 110, 118, 97, 108, 105, 100, 32, 115, 121, 110, 116, 97, 120]⟩] 334], #[], []⟩
 let put (h : Array Obj) (g : Nat) (cs : Array Value) : Array Obj := h.modify g fun
  | .cells _ t frozen => .cells cs t frozen
  | o => o
 let h1 := put w0.heap 3 #[.iface 332 (.pointer (some ⟨N + 1, 0, none⟩))]
 let h2 := put h1 4 #[.iface 332 (.pointer (some ⟨N, 0, none⟩))]
 let h3 := put h2 5 (rowV Rows.laid_internal_strconv_uint64pow10)
 let h4 := put h3 6 (rowV Rows.laid_math_bits_deBruijn32tab)
 let h5 := put h4 7 (rowV Rows.laid_math_bits_deBruijn64tab)
 let h6 := put h5 2 (rowV2 Rows.laid_unicode_utf8_acceptRanges)
 let h7 := put h6 1 (rowV Rows.laid_unicode_utf8_first)
 { w0 with heap := h7 }
end Go.Proofs.YthachfkcgdfdfaaGreatDoor
/- Own law: a range over a function whose iterator keeps what is left in a block of its own, which it turns between two rounds. -/
namespace Go.Proofs.YthachfkcgdfdfaaGreatDoor
open Go.RowKit

/-- The iterator's word: as for any iterator, but that whoever ranges over it abides the turns Tn. -/
def SeqTurns {α : Type} (F : Fence) (n : Nat) (P : Program) (g : Nat) (lb : Array Value) (encs : α → Array Value) (Kp Tn : World → World → Prop) (S Sp : List α → Prop) (G : List α → α → Prop) (w : World) : Prop :=
 ∀ (l : Nat) (J Jx : List α → World → Prop) (W : World), Below w.heap.size w W → AbidesFrom W.heap.size J → AbidesFrom W.heap.size Jx →
  (∀ s X Y, J s X → Tn X Y → J s Y) → (∀ s X Y, Jx s X → Tn X Y → Jx s Y) →
  (∀ pre x W1, J pre W1 → G pre x → YieldAt F (n - 1) P l (encs x) W1 fun e W' =>
   (e = .returned (.bool true) ∧ J (pre ++ [x]) W' ∧ Kp W1 W') ∨ (e = .returned (.bool false) ∧ Jx (pre ++ [x]) W')) →
  J [] W →
  CallsIn F n P g (#[.func (.yield l) #[] #[]] ++ lb) W fun e W' => (∃ v, e = .returned v) ∧ ((∃ xs, S xs ∧ J xs W') ∨ (∃ pre, Sp pre ∧ Jx pre W'))

/-- How a round may be left. -/
def turnPost {α : Type} (B : Nat) (Kp : World → World → Prop) (I : List α → World → Prop) (Ix : Code → List α → World → Prop) (xs : List α) (W : World) (e : Exit) (W' : World) : Prop :=
 KeepsFrom B W W' ∧ ((e = .normal ∧ Kp W W' ∧ I xs W') ∨ (e = .ret ∧ Ix .ret xs W'))

theorem wpIn_range_turns {F : Fence} {n : Nat} {P : Program} {α : Type} {g : Operand} {ps : Array Tmp} {assign body : Code} {Q : Exit → Act → World → Prop} {a : Act} {w : World}
  (hro : F.round = none) (h1 : 1 ≤ n) {gf : Nat} {lb : Array Value} (hg : a.eval g = .func (.func gf) #[] lb) (hFg : F.fn gf) (eg : ∀ args w, (callFunc gf args).run P w = .ok (.enter gf args) w)
  {encs : α → Array Value} {Kp Tn : World → World → Prop} {S Sp : List α → Prop} {G : List α → α → Prop} {w0 : World} (hseq : SeqTurns F (n - 1) P gf lb encs Kp Tn S Sp G w0)
  (hKt : ∀ {A B C : World}, Kp A B → Kp B C → Kp A C) (hKb : ∀ (W : World) (l : Nat) (o o' : Obj), w.heap.size ≤ l → W.heap[l]? = some o → o.isCells = false → Kp W (W.putObj l o')) (hb0 : Below w0.heap.size w0 w) (hps : ∀ x, (encs x).size = ps.size)
  (hTl : ∀ (X Y : World) (l : Nat) (o : Obj), Tn X Y → w.heap.size ≤ l → X.heap[l]? = some o → o.isCells = false → Y.heap[l]? = some o)
  (I : List α → World → Prop) (Ix : Code → List α → World → Prop) (hI : OwnFrom w.heap.size I) (hIx : ∀ c, OwnFrom w.heap.size (Ix c)) (hT : ∀ s X Y, I s X → Tn X Y → I s Y) (hTx : ∀ c s X Y, Ix c s X → Tn X Y → Ix c s Y) (h0 : I [] w)
  (a₁ : α → Act)
  (hassign : ∀ (l : Nat) (x : α) (W : World) (K : Act → World → Prop), K (a₁ x) W →
   assign.wpIn (F.inRound l) (n - 1 - 1) P (Exit.then K (fun _ _ _ => False)) { tmps := (ps.zip (encs x)).foldl (fun t (p, v) => t.setIfInBounds p v) a.tmps, defers := [] } W)
  (hbody : ∀ (l : Nat) (pre : List α) (x : α) (W : World), I pre W → G pre x → body.wpIn (F.inRound l) (n - 1 - 1) P (fun e _ W' => turnPost w.heap.size Kp I Ix (pre ++ [x]) W e W') (a₁ x) W)
  (hdone : ∀ (D : Nat) (xs : List α) (W : World), w.heap.size ≤ D → S xs → I xs W → W.heap[D]? = some (.deferred (some [])) → Q .normal { a with defers := { target := .collected D, args := #[] } :: a.defers } W)
  (hstop : ∀ (D : Nat) (pre : List α) (W : World), w.heap.size ≤ D → Sp pre → Ix .ret pre W → W.heap[D]? = some (.deferred (some [])) → Code.ret.wpIn F n P Q { a with defers := { target := .collected D, args := #[] } :: a.defers } W) :
  (Code.rangeFunc g ps assign body).wpIn F n P Q a w := by
 refine wpIn_rangeFunc fun fn hfn => ?_
 rw [hro]
 let R : LoopState → Option Code → Loop := fun st pe => { state := st, pending := pe, fn, tmps := a.tmps, params := ps, assign, body, defers := w.heap.size }
 obtain ⟨B, hB⟩ : ∃ B, B = w.heap.size := ⟨_, rfl⟩
 obtain ⟨W1, hW1⟩ : ∃ W1, W1 = (w.alloc (.deferred (some []))).alloc (.loop (R .ready none)) := ⟨_, rfl⟩
 have rL : W1.heap[B + 1]? = some (.loop (R .ready none)) := by
  have h := World.alloc_heap_new (w.alloc (.deferred (some []))) (.loop (R .ready none))
  rw [World.size_alloc, ← hB] at h
  rw [hW1]; exact h
 have rD : W1.heap[B]? = some (.deferred (some [])) := by
  rw [hW1, hB]; exact (Below.heap_alloc _ _ _ (by simp)).trans (World.alloc_heap_new w _)
 have iI : I [] W1 := by rw [hW1]; exact hI.alloc _ (hI.alloc _ h0)
 have sz1 : W1.heap.size = B + 2 := by rw [hW1, hB]; simp
 have bl1 : Below w0.heap.size w0 W1 := by
  rw [hW1]; exact hb0.trans ((((Below.refl _ w).alloc (Nat.le_refl _) _).alloc (by simp) _).mono hb0.size)
 refine ⟨B + 1, [{ target := .collected B, args := #[] }], W1, { target := .fn (.func gf) lb, args := #[.func (.yield (B + 1)) #[] #[]] }, W1, gf, #[.func (.yield (B + 1)) #[] #[]] ++ lb, W1, ?_, ?_, ?_, ?_, fun _ => h1, ?_⟩
 ·rw [hW1, hB]; exact run_enterLoop_outer _ _ _ _ _
 ·simp only [resolve, hg]
  simp [go_sem]
 ·intro f hf
  simp [Target.leads] at hf
  rw [← hf]; exact hFg
 ·simp [invoke, go_sem, eg]
 let J : List α → World → Prop := fun pre W => I pre W ∧ W.heap[B + 1]? = some (.loop (R .ready none)) ∧ W.heap[B]? = some (.deferred (some []))
 let Jx : List α → World → Prop := fun pre W => Ix .ret pre W ∧ W.heap[B + 1]? = some (.loop (R .done (some .ret))) ∧ W.heap[B]? = some (.deferred (some []))
 have stays : ∀ {X Y : World} {row : Option Nat} {k : Nat} {o : Obj}, X.grownBy Y row → (∀ r, row = some r → W1.heap.size ≤ r ∧ ∃ o : Obj, X.heap[r]? = some o ∧ o.isWalk = true) → k < W1.heap.size → X.heap[k]? = some o → Y.heap[k]? = some o := fun hg hr hk ho =>
  (hg.block _ (Array.getElem?_eq_some_iff.1 ho).1 (fun e => by have := (hr _ e.symm).1; omega)).trans ho
 have own : ∀ {X : World} {row : Option Nat}, (∀ r, row = some r → W1.heap.size ≤ r ∧ ∃ o : Obj, X.heap[r]? = some o ∧ o.isWalk = true) → ∀ r, row = some r → w.heap.size ≤ r ∧ ∃ o : Obj, X.heap[r]? = some o ∧ o.isCells = false := fun hr r e => by
  obtain ⟨h2, o, h3, h4⟩ := hr r e; exact ⟨by omega, o, h3, Obj.not_cells_of_walk h4⟩
 have hJ : AbidesFrom W1.heap.size J := fun pre X Y row hs hg hr => ⟨hI pre X Y row hs.1 hg (own hr), stays hg hr (by omega) hs.2.1, stays hg hr (by omega) hs.2.2⟩
 have hJx : AbidesFrom W1.heap.size Jx := fun pre X Y row hs hg hr => ⟨hIx .ret pre X Y row hs.1 hg (own hr), stays hg hr (by omega) hs.2.1, stays hg hr (by omega) hs.2.2⟩
 refine (hseq (B + 1) J Jx W1 bl1 hJ hJx (fun s X Y h t => ⟨hT s X Y h.1 t, hTl X Y _ _ t (by omega) h.2.1 rfl, hTl X Y _ _ t (by omega) h.2.2 rfl⟩) (fun s X Y h t => ⟨hTx .ret s X Y h.1 t, hTl X Y _ _ t (by omega) h.2.1 rfl, hTl X Y _ _ t (by omega) h.2.2 rfl⟩) ?_ ⟨iI, rL, rD⟩).mono ?_
 ·rintro pre x W ⟨hi, hl, hd⟩ hlen
  refine ⟨fn, _, assign, body, run_yield (P := P) (args := encs x) hl (hps x), roundIn_of_wpIn hfn (hassign _ x W _ ?_)⟩
  have hlt := (Array.getElem?_eq_some_iff.1 hl).1
  refine ⟨_, run_beginRound hl rfl, ?_⟩
  obtain ⟨X, hX⟩ : ∃ X, X = W.putObj (B + 1) (.loop (R .busy none)) := ⟨_, rfl⟩
  have xl : X.heap[B + 1]? = some (.loop (R .busy none)) := by rw [hX]; exact World.putObj_heap_same hlt
  have xd : X.heap[B]? = some (.deferred (some [])) := by rw [hX]; exact (World.putObj_heap_other (by omega)).trans hd
  have xi : I pre X := by rw [hX]; exact hI.putObj _ hi (by omega) hl rfl
  have xk : Kp W X := by rw [hX]; exact hKb _ _ _ _ (by omega) hl rfl
  have hb := hbody (B + 1) pre x X xi hlen
  rw [hX] at hb
  refine wpIn_mono hb ?_
  rw [← hX]
  rintro e a3 W3 ⟨hk3, h⟩
  have hl3 := hk3.same _ _ (by omega) xl rfl
  have hd3 := hk3.same _ _ (by omega) xd rfl
  have hlt3 := (Array.getElem?_eq_some_iff.1 hl3).1
  rcases h with ⟨rfl, hkp, hi3⟩ | ⟨rfl, hi3⟩
  ·exact ⟨_, _, run_endRound (P := P) none hl3, .inl ⟨rfl, ⟨hI.putObj _ hi3 (by omega) hl3 rfl, World.putObj_heap_same hlt3, (World.putObj_heap_other (by omega)).trans hd3⟩, hKt (hKt xk hkp) (hKb _ _ _ _ (by omega) hl3 rfl)⟩⟩
  ·exact ⟨_, _, run_endRound (P := P) (some .ret) hl3, .inr ⟨rfl, (hIx .ret).putObj _ hi3 (by omega) hl3 rfl, World.putObj_heap_same hlt3, (World.putObj_heap_other (by omega)).trans hd3⟩⟩
 ·rintro e W2 ⟨⟨v, rfl⟩, ⟨xs, hS, hi, hl, hd⟩ | ⟨pre, hS, hi, hl, hd⟩⟩
  ·exact ⟨none, _, run_endLoop (P := P) hl (by simp [R]), hdone B xs _ (by omega) hS (hI.putObj _ hi (by omega) hl rfl) ((World.putObj_heap_other (by omega)).trans hd)⟩
  ·exact ⟨some .ret, _, run_endLoop (P := P) hl (by simp [R]), hstop B pre _ (by omega) hS ((hIx .ret).putObj _ hi (by omega) hl rfl) ((World.putObj_heap_other (by omega)).trans hd)⟩
end Go.Proofs.YthachfkcgdfdfaaGreatDoor
/- Own law: append, and what becomes of the older slice. -/
namespace Go.Proofs.YthachfkcgdfdfaaGreatDoor
open Go.RowKit

theorem run_append_keep {P : Program} (w : World) (base : Nat) (t ty e : TypeId) (i : TypeInfo) (z : Value) (size bytes : Nat) (ht : P.underlying t = some (.slice e)) (hi : P.info? e = some i) (hz : i.zero = some z)
  (hsize : i.size = size) (hby : i.bytes = bytes) (hzs : z.cells.size = size) (hsz : 0 < size) (v : Value) (n : Nat) (xs : List Value) (hown : w.ownsRow base e size v n xs)
  (a : Addr) (m c : Nat) (news : List Value) (hl : news.length = m * size) (hnews : ∀ j u, news[j]? = some u → w.cell? (a.add j) = some u) (h1 : ∀ u ∈ news, u.oneCell' = true) 
  (h63 : n + m ≤ maxLen) (hbytes : (n + m) * bytes ≤ 140737488355328) (hbase : base ≤ w.heap.size) :
  ∃ v' w', (Builtin.append_ #[t, t] ty #[v, .slice (some a) m c]).run P w = .ok v' w' ∧ w'.ownsRow base e size v' (n + m) (xs ++ news) ∧
   ((∃ g cap, v = .slice (some ⟨g, 0, none⟩) n cap ∧ v' = .slice (some ⟨g, 0, none⟩) (n + m) cap ∧ w.grownBy w' (some g)) ∨ ((∀ g, v'.ownBlock = some g → w.heap.size ≤ g) ∧ w.grownBy w' none)) := by
 obtain ⟨v', w', hr, hO, hG, -⟩ := run_append_own (P := P) w base t ty e i z size bytes ht hi hz hsize hby hzs hsz v n xs hown a m c news hl hnews h1 h63 hbytes hbase
 refine ⟨v', w', hr, hO, ?_⟩
 have hown0 := hown
 rcases hown.2 with ⟨rfl, rfl⟩ | ⟨g, cap, cur, rfl, hbg, hg, hnc, hcm, hcs, htake⟩
 ·right
  have hx : xs = [] := List.eq_nil_of_length_eq_zero (by simpa using hown.1)
  subst hx
  obtain ⟨v2, w2, hr2, hO2, hG2, -⟩ := run_append_own (P := P) w w.heap.size t ty e i z size bytes ht hi hz hsize hby hzs hsz (.slice none 0 0) 0 [] (World.ownsRow_nil _ _ _ _) a m c news hl hnews h1 h63 hbytes (Nat.le_refl _)
  rw [hr] at hr2
  injection hr2 with e1 e2
  subst e1; subst e2
  exact ⟨fun g hg => (hO2.lt g hg).1, hG2⟩
 ·subst hsize
  by_cases hroom : n + m ≤ cap
  ·left
   have hfit : n * i.size + news.length ≤ cur.size := by rw [hl, hcs, ← Nat.add_mul]; exact Nat.mul_le_mul_right _ hroom
   have hr2 := run_append_room (P := P) w t ty e i ht hi g n cap cur hg a m c news hl hnews h1 hroom hfit
   rw [hr] at hr2
   injection hr2 with e1 e2
   subst e1
   exact ⟨g, cap, rfl, rfl, hG⟩
  ·right
   have holds : ∀ j u, xs[j]? = some u → w.cell? ((⟨g, 0, none⟩ : Addr).add j) = some u := hown0.cells (g := g) rfl
   have hr2 := run_append_grow (P := P) w t ty e i z ht hi hz ⟨g, 0, none⟩ n cap xs hown0.1 holds a m c news hl hnews (by omega) (by unfold maxLen at *; omega) (growslice_fits (by omega) (by rw [hby]; exact hbytes))
   rw [hr] at hr2
   injection hr2 with e1 e2
   subst e1; subst e2
   refine ⟨fun g' hg' => ?_, rfl, rfl, rfl, by simp, fun k hk _ => Below.heap_alloc w.drew _ k hk⟩
   simp [Value.ownBlock] at hg'
   omega
/-- At a step of a drawn region. -/
theorem step_append_keep {P : Program} (w : World) {ops : Array Oper} {o : Oper} {a : Act} {K : Act → World → Prop} {Q : Exit → Act → World → Prop} {E : Prop} (hgd : o.guard = none) (s x : Operand) (t : TypeId)
  (ho : o.op = .call { callee := .builtin .append, args := #[s, x], argTypes := #[t, t] })
  (base : Nat) (e : TypeId) (i : TypeInfo) (z : Value) (size bytes : Nat) (ht : P.underlying t = some (.slice e)) (hi : P.info? e = some i) (hz : i.zero = some z)
  (hsize : i.size = size) (hby : i.bytes = bytes) (hzs : z.cells.size = size) (hsz : 0 < size)
  (v : Value) (n : Nat) (xs : List Value) (hs : a.eval s = v) (hown : w.ownsRow base e size v n xs)
  (ad : Addr) (m c : Nat) (news : List Value) (hx : a.eval x = .slice (some ad) m c) (hl : news.length = m * size) (hnews : ∀ j u, news[j]? = some u → w.cell? (ad.add j) = some u) (h1 : ∀ u ∈ news, u.oneCell' = true)
  (h63 : n + m ≤ maxLen) (hbytes : (n + m) * bytes ≤ 140737488355328) (hbase : base ≤ w.heap.size)
  (h : ∀ v' w', w'.ownsRow base e size v' (n + m) (xs ++ news) → ((∃ g cap, v = .slice (some ⟨g, 0, none⟩) n cap ∧ v' = .slice (some ⟨g, 0, none⟩) (n + m) cap ∧ w.grownBy w' (some g)) ∨ ((∀ g, v'.ownBlock = some g → w.heap.size ≤ g) ∧ w.grownBy w' none)) → K (a.put o.dst v') w') :
  if Region.wanted o (yielded ops a.tmps) = true then Oper.wp P o a w K Q else E := by
 have hw : Region.wanted o (yielded ops a.tmps) = true := by simp [Region.wanted, hgd]
 rw [if_pos hw]
 obtain ⟨v', w', hr, h2, h3⟩ := run_append_keep (P := P) w base t o.type e i z size bytes ht hi hz hsize hby hzs hsz v n xs hown ad m c news hl hnews h1 h63 hbytes hbase
 unfold Oper.wp execOp
 simp only [ho, resolve, invoke, builtin, Sem.run_bind, Sem.run_pure, Result.andThen_ok, List.map_toArray, List.map_cons, List.map_nil, hs, hx, hr]
 exact h v' w' h2 h3
end Go.Proofs.YthachfkcgdfdfaaGreatDoor
