/- L1 · L2 · L4 -/
import Derived.Test.YtabocamjaecaaaaGreatDoorGA
import Derived.Deep.QuietTactic
import Derived.BigQuiet
import Derived.IntWalk
import Derived.Laws.CopyOwn
/- Walks of the lexer: classes of bytes, 'at', 'while'. -/
namespace Go.Proofs.YtabocamjaecaaaaGreatDoor
open Go.RowKit Classical

/-- The class of a byte. -/
def classOf (c : Nat) : Int :=
 if 97 ≤ c ∧ c ≤ 122 ∨ 65 ≤ c ∧ c ≤ 90 then 3 else if 48 ≤ c ∧ c ≤ 57 then 4 else if c = 95 then 5 else if c = 32 ∨ c = 9 ∨ c = 10 then 1 else if c = 35 then 2 else if c = 34 then 6
 else if c = 33 then 7 else if c = 60 ∨ c = 62 then 8 else if [59, 44, 46, 58, 40, 41, 91, 93, 123, 125, 61, 43, 45].contains c then 9 else 0
def classAt (l : List UInt8) (i : Nat) : Int := match l[i]? with
 | some c => classOf c.toNat
 | none => 0

/-- Block b is a scanner of the text s. -/
structure ScanAt (w : World) (b : Nat) (s : ByteArray) : Prop where
 text : w.cell? ⟨b, 0, none⟩ = some (.string s)
 cls : ∀ c, c < 256 → w.cell? ⟨b, 1 + c, none⟩ = some (.int .i64 (classOf c))
theorem ScanAt.below {w w' : World} {b B : Nat} {s : ByteArray} (h : ScanAt w b s) (hb : Below B w w') (hB : b < B) : ScanAt w' b s :=
 ⟨(hb.cell (p := ⟨b, 0, none⟩) hB).trans h.text, fun c hc => (hb.cell (p := ⟨b, 1 + c, none⟩) hB).trans (h.cls c hc)⟩
theorem ScanAt.drewN {w : World} {b : Nat} {s : ByteArray} (h : ScanAt w b s) (n : Nat) : ScanAt (w.drewN n) b s := ⟨h.text, h.cls⟩

set_option maxRecDepth 100000 in
set_option maxHeartbeats 1000000 in
theorem at_any (b : Nat) (s : ByteArray) (i : Nat) (_hs : s.size ≤ maxLen) (w : World) (h : ScanAt w b s) :
  Calls Tryz.prog 113 #[.pointer (some ⟨b, 0, none⟩), .int .i64 i] w fun e w' => e = .returned (.int .i64 (classAt (bl s) i)) ∧ ∃ q, w' = w.drewN q := by
 unfold maxLen at _hs
 have ht := h.text
 go_enter Tryz.func113, Tryz.ntmps113
 by_cases hi : i < s.size
 ·have hb8 : s[i].toNat < 256 := s[i].toNat_lt
  have hc := h.cls s[i].toNat hb8
  have hg := Lib.hid (bl_get s i hi)
  go_wp2_with fail
  go_quiet (fail)
  go_wp2
  go_ret
  exact ⟨ret_int (by rw [classAt, hg.out]), _, rfl⟩
 ·have hg : (bl s)[i]? = none := List.getElem?_eq_none (by rw [bl_length]; omega)
  have Hg := Lib.hid hg
  clear hg
  go_wp2
  go_ret
  exact ⟨ret_int (by rw [classAt, Hg.out]), 0, rfl⟩

end Go.Proofs.YtabocamjaecaaaaGreatDoor

/- Walks: slices.Index, slices.Contains at ints; the lexer's 'while'. -/
namespace Go.Proofs.YtabocamjaecaaaaGreatDoor
open Go.RowKit Classical

def idxI (zs : List Int) (x : Int) : Int := if x ∈ zs then (zs.idxOf x : Nat) else -1
theorem idxI_at {zs : List Int} {x : Int} {k : Nat} (h : zs[k]? = some x) (hb : ∀ (j : Nat) y, j < k → zs[j]? = some y → y ≠ x) : idxI zs x = k := by
 have hm := List.mem_of_getElem? h
 rw [idxI, if_pos hm]
 congr 1
 have h1 : zs.idxOf x < zs.length := List.idxOf_lt_length_of_mem hm
 have h2 : zs[zs.idxOf x]? = some x := by rw [List.getElem?_eq_getElem h1, List.getElem_idxOf]
 rcases Nat.lt_trichotomy (zs.idxOf x) k with hlt | heq | hgt
 ·exact absurd rfl (hb _ _ hlt h2)
 ·exact heq
 ·exfalso
  have : ∀ (l : List Int) (k : Nat), l[k]? = some x → l.idxOf x ≤ k := by
   intro l
   induction l with
   | nil => intro k h; simp at h
   | cons a l ih =>
    intro k h
    rw [List.idxOf_cons]
    cases hax : a == x with
    | true => simp
    | false =>
     cases k with
     | zero => simp at h; simp [h] at hax
     | succ k => rw [List.getElem?_cons_succ] at h; have := ih k h; simp; omega
  have := this zs k h
  omega

set_option maxRecDepth 100000 in
set_option maxHeartbeats 1000000 in
theorem IndexInt_any (zs : List Int) (a : Option Addr) (c : Nat) (x : Int) (B : Nat) (hz : zs.length ≤ maxLen) (w : World) (h : RowAt w B a (nums zs)) :
  Calls Tryz.prog 87 #[.slice a zs.length c, .int .i64 x] w fun e w' => e = .returned (.int .i64 (idxI zs x)) ∧ w' = w := by
 unfold maxLen at hz
 go_enter Tryz.func87, Tryz.ntmps87
 go_wp2_with fail
 go_loop [8] (fun i => ∃ k : Nat, k ≤ zs.length ∧ i = .int .i64 k ∧ (∀ (j : Nat) y, j < k → zs[j]? = some y → y ≠ x)) (fun i => zs.length - (intOf i).toNat)
 case atStart => exact ⟨0, Nat.zero_le _, rfl, by simp⟩
 case round =>
  obtain ⟨k, hk, rfl, hno⟩ := hrel
  have Hno := Lib.hid hno
  clear hno
  by_cases hkl : k < zs.length
  ·obtain ⟨g, o, rfl, hg, hc⟩ := h.nums (by omega)
   have c0 := hc k hkl
   clear hc
   by_cases he : zs[k] = x
   ·have d1 : (x == zs[k]) = true := by simp [he]
    have He := Lib.hid he
    clear he
    go_wp2
    go_ret
    exact ⟨ret_int (idxI_at (by rw [List.getElem?_eq_getElem hkl, He.out]) Hno.out).symm, rfl⟩
   ·have d1 : (x == zs[k]) = false := by simp [Ne.symm he]
    have He := Lib.hid he
    clear he
    go_wp2
    refine ⟨⟨k + 1, by omega, by go_num, fun j y hj hy => ?_⟩, by simp [intOf]; omega⟩
    rcases Nat.lt_succ_iff_lt_or_eq.1 hj with hj | rfl
    ·exact Hno.out j y hj hy
    ·rw [List.getElem?_eq_getElem hkl] at hy; obtain rfl := Option.some.inj hy; exact He.out
  ·go_wp2
   go_ret
   refine ⟨ret_int ?_, rfl⟩
   rw [idxI, if_neg]
   intro hm
   obtain ⟨j, hj, hje⟩ := List.getElem_of_mem hm
   exact Hno.out j _ (by omega) (List.getElem?_eq_getElem hj) hje

set_option maxHeartbeats 400000 in
theorem ContainsInt_any (zs : List Int) (a : Option Addr) (c : Nat) (x : Int) (B : Nat) (hz : zs.length ≤ maxLen) (w : World) (h : RowAt w B a (nums zs)) :
  Calls Tryz.prog 66 #[.slice a zs.length c, .int .i64 x] w fun e w' => e = .returned (.bool (zs.contains x)) ∧ w' = w := by
 go_enter Tryz.func66, Tryz.ntmps66
 go_wp2_with fail
 refine (IndexInt_any zs a c x B hz w h).mono ?_
 rintro e w1 ⟨rfl, rfl⟩
 by_cases hm : x ∈ zs
 ·have e1 : idxI zs x = ((zs.idxOf x : Nat) : Int) := by rw [idxI, if_pos hm]
  have e2 : zs.contains x = true := by simpa using hm
  rw [e1]
  have E := Lib.hid e2
  clear e1 e2
  go_wp2
  go_ret
  exact ⟨ret_bool (by rw [E.out]), rfl⟩
 ·have e1 : idxI zs x = -1 := by rw [idxI, if_neg hm]
  have e2 : zs.contains x = false := by rw [← Bool.not_eq_true]; simpa using hm
  rw [e1]
  have E := Lib.hid e2
  clear e1 e2
  go_wp2
  go_ret
  exact ⟨ret_bool (by rw [E.out]), rfl⟩

/-- Where the bytes of some classes end that stand from i on. -/
def whileF (l : List UInt8) (cls : List Int) (i : Nat) : Nat := i + ((l.drop i).takeWhile fun c => cls.contains (classOf c.toNat)).length

theorem whileF_step {l : List UInt8} {cls : List Int} {i : Nat} {c : UInt8} (h : l[i]? = some c) (hc : cls.contains (classOf c.toNat) = true) : whileF l cls i = whileF l cls (i + 1) := by
 obtain ⟨hi, rfl⟩ := List.getElem?_eq_some_iff.1 h
 unfold whileF
 rw [List.drop_eq_getElem_cons hi, List.takeWhile_cons, if_pos hc]
 simp; omega
theorem whileF_stop {l : List UInt8} {cls : List Int} {i : Nat} {c : UInt8} (h : l[i]? = some c) (hc : cls.contains (classOf c.toNat) = false) : whileF l cls i = i := by
 obtain ⟨hi, rfl⟩ := List.getElem?_eq_some_iff.1 h
 unfold whileF
 rw [List.drop_eq_getElem_cons hi, List.takeWhile_cons, if_neg (by rw [hc]; simp)]
 rfl
theorem whileF_end {l : List UInt8} {cls : List Int} {i : Nat} (h : l.length ≤ i) : whileF l cls i = i := by
 unfold whileF
 rw [List.drop_of_length_le h]; rfl

set_option maxRecDepth 100000 in
set_option maxHeartbeats 1000000 in
theorem while_any (b : Nat) (s : ByteArray) (i : Nat) (cls : List Int) (ca : Option Addr) (cc : Nat) (hcl : cls.length ≤ maxLen) (hi : i ≤ s.size) (hs : s.size ≤ maxLen) (w : World) (h : ScanAt w b s) (B : Nat) (hc : RowAt w B ca (nums cls)) :
  Calls Tryz.prog 112 #[.pointer (some ⟨b, 0, none⟩), .int .i64 i, .slice ca cls.length cc] w fun e w' => e = .returned (.int .i64 (whileF (bl s) cls i)) ∧ ∃ q, w' = w.drewN q := by
 have hs2 := hs
 unfold maxLen at hs2
 go_enter Tryz.func112, Tryz.ntmps112
 go_wp2_with fail
 go_loopw [1] (fun c1 wr => ∃ k : Nat, k ≤ s.size ∧ c1 = .int .i64 k ∧ whileF (bl s) cls i = whileF (bl s) cls k ∧ ∃ q, wr = w.drewN q) (fun c1 _ => s.size - (intOf c1).toNat)
 case atStart => exact ⟨i, hi, rfl, rfl, 0, rfl⟩
 case round =>
  obtain ⟨k, hk, rfl, hw, q, rfl⟩ := hrel
  have Hw := Lib.hid hw
  have ht := (h.drewN q).text
  clear hw
  by_cases hkl : k < s.size
  ·have hg := Lib.hid (bl_get s k hkl)
   go_wp2_with (first
    | (go_at_call 113; refine (at_any b s k hs _ (h.drewN q)).mono ?_; rintro e w1 ⟨rfl, q1, rfl⟩)
    | (go_at_call 66; refine (ContainsInt_any cls ca cc _ B hcl _ (hc.drewN _)).mono ?_; rintro e w1 ⟨rfl, rfl⟩))
   case roundEnd =>
    rename_i hm
    have hcc : cls.contains (classOf s[k].toNat) = true := by
     rw [classAt, hg.out] at hm
     simpa using hm
    exact ⟨⟨k + 1, by omega, by go_num, by rw [Hw.out, whileF_step hg.out hcc], _, rfl⟩, by simp [intOf]; omega⟩
   all_goals (
    rename_i hm
    have hcc : cls.contains (classOf s[k].toNat) = false := by
     rw [classAt, hg.out] at hm
     rw [← Bool.not_eq_true]
     simpa using hm
    go_ret
    exact ⟨ret_int (by rw [Hw.out, whileF_stop hg.out hcc]), _, rfl⟩)
  ·go_wp2
   go_ret
   exact ⟨ret_int (by rw [Hw.out, whileF_end (by rw [bl_length]; omega)]), q, rfl⟩

end Go.Proofs.YtabocamjaecaaaaGreatDoor

/- Walks: the lexer's classes of bytes. -/
namespace Go.Proofs.YtabocamjaecaaaaGreatDoor
open Go.RowKit Classical

def cellsI (g : List Int) : Array Value := (g.map (Value.int .i64)).toArray
def setAll (g : List Int) (s : List UInt8) (c : Int) : List Int := s.foldl (fun g b => g.set b.toNat c) g
theorem setAll_length (s : List UInt8) (c : Int) : ∀ g : List Int, (setAll g s c).length = g.length := by
 induction s with
 | nil => intro g; rfl
 | cons a s ih => intro g; show (setAll (g.set a.toNat c) s c).length = _; rw [ih]; simp
theorem setAll_snoc (g : List Int) (s : List UInt8) (a : UInt8) (c : Int) : setAll g (s ++ [a]) c = (setAll g s c).set a.toNat c := by
 simp [setAll]
theorem cellsI_set (g : List Int) (i : Nat) (c : Int) : (cellsI g).setIfInBounds i (.int .i64 c) = cellsI (g.set i c) := by
 simp [cellsI]
theorem cellsI_get (g : List Int) (i : Nat) (h : i < g.length) : (cellsI g)[i]? = some (.int .i64 g[i]) := by
 simp [cellsI, h]

set_option maxRecDepth 100000 in
set_option maxHeartbeats 1000000 in
theorem set_any (b : Nat) (g : List Int) (hg : g.length = 256) (s : ByteArray) (hs : s.size ≤ maxLen) (c : Int) (w : World) (h : Blk w b (cellsI g) 163) :
  Calls Tryz.prog 111 #[.string s, .int .i64 c, .pointer (some ⟨b, 0, none⟩)] w fun e w' => e = .returned (.tuple #[]) ∧ Blk w' b (cellsI (setAll g (bl s) c)) 163 ∧ Below b w w' := by
 unfold maxLen at hs
 go_enter Tryz.func111, Tryz.ntmps111
 go_wp2_with fail
 go_loopw [5] (fun c1 wr => ∃ k : Nat, k ≤ s.size ∧ c1 = .int .i64 k ∧ Blk wr b (cellsI (setAll g ((bl s).take k) c)) 163 ∧ Below b w wr) (fun c1 _ => s.size - (intOf c1).toNat)
 case atStart => exact ⟨0, Nat.zero_le _, rfl, h, Below.refl _ _⟩
 case round =>
  obtain ⟨k, hk, rfl, hb, hw⟩ := hrel
  obtain ⟨G, hG⟩ : ∃ G, setAll g ((bl s).take k) c = G := ⟨_, rfl⟩
  have hGl : G.length = 256 := by rw [← hG, setAll_length, hg]
  rw [hG] at hb
  have HG := Lib.hid hG
  have Hb := Lib.hid hb
  clear hG
  by_cases hkl : k < s.size
  ·have hb8 : s[k].toNat < 256 := s[k].toNat_lt
   have hc0 := hb.cell s[k].toNat
   rw [cellsI_get G _ (by omega)] at hc0
   have hf0 := hb.frozen s[k].toNat
   have hgt := bl_get s k hkl
   have HT : Hid (setAll g ((bl s).take (k + 1)) c = G.set s[k].toNat c) := Lib.hid (by
    rw [List.take_add_one, hgt, ← HG.out]
    exact setAll_snoc _ _ _ _)
   clear hgt hb
   go_wp2
   refine ⟨⟨k + 1, by omega, by go_num, ?_, hw.setCell (Nat.le_refl _) _⟩, by simp [intOf]; omega⟩
   rw [HT.out, ← cellsI_set]
   exact Hb.out.set_ _ _
  ·clear hb
   obtain rfl : k = s.size := by omega
   go_wp2
   refine bodyPost_end (v := .tuple #[]) (by simp [results, Tryz.results111, go_sem]) rfl ?_
   refine ⟨rfl, ?_, hw⟩
   have := Hb.out
   rw [← HG.out, List.take_of_length_le (by rw [bl_length]; exact Nat.le_refl _)] at this
   exact this

def clsL : List Int := (List.range 256).map classOf
def w1L : List UInt8 := [97, 98, 99, 100, 101, 102, 103, 104, 105, 106, 107, 108, 109, 110, 111, 112, 113, 114, 115, 116, 117, 118, 119, 120, 121, 122, 65, 66, 67, 68, 69, 70, 71, 72, 73, 74, 75, 76, 77, 78, 79, 80, 81, 82, 83, 84, 85, 86, 87, 88, 89, 90]
theorem classes_law : setAll (setAll (setAll (setAll (setAll (setAll (setAll (setAll (setAll (List.replicate 256 0) w1L 3) [48, 49, 50, 51, 52, 53, 54, 55, 56, 57] 4) [95] 5) [32, 9, 10] 1) [35] 2) [34] 6) [33] 7) [60, 62] 8) [59, 44, 46, 58, 40, 41, 91, 93, 123, 125, 61, 43, 45] 9 = clsL := by
 decide +kernel

set_option maxRecDepth 100000 in
set_option maxHeartbeats 1000000 in
theorem classes_any (w : World) :
  Calls Tryz.prog 102 #[] w fun e w' => e = .returned (.agg (cellsI clsL)) ∧ Below w.heap.size w w' := by
 go_enter Tryz.func102, Tryz.ntmps102
 go_wp2_with fail
 have hz : Tryz.zeroCells163 = cellsI (List.replicate 256 0) := by kernel_rfl
 have h0 : Blk ((w.alloc (Obj.cells Tryz.zeroCells163 163)).alloc (Obj.cells Tryz.zeroCells163 163)) (w.heap.size + 1) (cellsI (List.replicate 256 0)) 163 := by
  have := Blk.new (w.alloc (Obj.cells Tryz.zeroCells163 163)) Tryz.zeroCells163 163
  rw [show (w.alloc (Obj.cells Tryz.zeroCells163 163)).heap.size = w.heap.size + 1 from by simp] at this
  rw [← hz]; exact this
 have hr0 : Blk ((w.alloc (Obj.cells Tryz.zeroCells163 163)).alloc (Obj.cells Tryz.zeroCells163 163)) w.heap.size Tryz.zeroCells163 163 := (Blk.new w _ _).alloc _
 have hb0 : Below w.heap.size w ((w.alloc (Obj.cells Tryz.zeroCells163 163)).alloc (Obj.cells Tryz.zeroCells163 163)) := ((Below.refl _ w).alloc (Nat.le_refl _) _).alloc (by simp) _
 generalize hw0 : (w.alloc (Obj.cells Tryz.zeroCells163 163)).alloc (Obj.cells Tryz.zeroCells163 163) = v0 at h0 hr0 hb0
 clear hw0 hz
 generalize e0 : List.replicate 256 (0 : Int) = g0 at h0
 have l0 : g0.length = 256 := by rw [← e0, List.length_replicate]
 have E0 := Lib.hid e0
 clear e0
 refine (set_any _ _ l0 _ ?s0 _ _ h0).mono ?_
 case s0 => decide
 rintro e v1 ⟨rfl, h1, k1⟩
 generalize e1 : setAll g0 _ _ = g1 at h1
 have l1 : g1.length = 256 := by rw [← e1, setAll_length, l0]
 have E1 := Lib.hid e1
 clear e1
 go_wp2_with fail
 refine (set_any _ _ l1 _ ?s1 _ _ h1).mono ?_
 case s1 => decide
 rintro e v2 ⟨rfl, h2, k2⟩
 generalize e2 : setAll g1 _ _ = g2 at h2
 have l2 : g2.length = 256 := by rw [← e2, setAll_length, l1]
 have E2 := Lib.hid e2
 clear e2
 go_wp2_with fail
 refine (set_any _ _ l2 _ ?s2 _ _ h2).mono ?_
 case s2 => decide
 rintro e v3 ⟨rfl, h3, k3⟩
 generalize e3 : setAll g2 _ _ = g3 at h3
 have l3 : g3.length = 256 := by rw [← e3, setAll_length, l2]
 have E3 := Lib.hid e3
 clear e3
 go_wp2_with fail
 refine (set_any _ _ l3 _ ?s3 _ _ h3).mono ?_
 case s3 => decide
 rintro e v4 ⟨rfl, h4, k4⟩
 generalize e4 : setAll g3 _ _ = g4 at h4
 have l4 : g4.length = 256 := by rw [← e4, setAll_length, l3]
 have E4 := Lib.hid e4
 clear e4
 go_wp2_with fail
 refine (set_any _ _ l4 _ ?s4 _ _ h4).mono ?_
 case s4 => decide
 rintro e v5 ⟨rfl, h5, k5⟩
 generalize e5 : setAll g4 _ _ = g5 at h5
 have l5 : g5.length = 256 := by rw [← e5, setAll_length, l4]
 have E5 := Lib.hid e5
 clear e5
 go_wp2_with fail
 refine (set_any _ _ l5 _ ?s5 _ _ h5).mono ?_
 case s5 => decide
 rintro e v6 ⟨rfl, h6, k6⟩
 generalize e6 : setAll g5 _ _ = g6 at h6
 have l6 : g6.length = 256 := by rw [← e6, setAll_length, l5]
 have E6 := Lib.hid e6
 clear e6
 go_wp2_with fail
 refine (set_any _ _ l6 _ ?s6 _ _ h6).mono ?_
 case s6 => decide
 rintro e v7 ⟨rfl, h7, k7⟩
 generalize e7 : setAll g6 _ _ = g7 at h7
 have l7 : g7.length = 256 := by rw [← e7, setAll_length, l6]
 have E7 := Lib.hid e7
 clear e7
 go_wp2_with fail
 refine (set_any _ _ l7 _ ?s7 _ _ h7).mono ?_
 case s7 => decide
 rintro e v8 ⟨rfl, h8, k8⟩
 generalize e8 : setAll g7 _ _ = g8 at h8
 have l8 : g8.length = 256 := by rw [← e8, setAll_length, l7]
 have E8 := Lib.hid e8
 clear e8
 go_wp2_with fail
 refine (set_any _ _ l8 _ ?s8 _ _ h8).mono ?_
 case s8 => decide
 rintro e v9 ⟨rfl, h9, k9⟩
 generalize e9 : setAll g8 _ _ = g9 at h9
 have l9 : g9.length = 256 := by rw [← e9, setAll_length, l8]
 have E9 := Lib.hid e9
 clear e9
 go_wp2_with fail
 have hL : Blk v9 (w.heap.size + 1) (cellsI clsL) 163 := by
  rw [← E9.out, ← E8.out, ← E7.out, ← E6.out, ← E5.out, ← E4.out, ← E3.out, ← E2.out, ← E1.out, ← E0.out] at h9
  rw [← classes_law]
  exact h9
 have hr : Blk v9 w.heap.size Tryz.zeroCells163 163 := (((((((((hr0.below k1 (by omega)).below k2 (by omega)).below k3 (by omega)).below k4 (by omega)).below k5 (by omega)).below k6 (by omega)).below k7 (by omega)).below k8 (by omega)).below k9 (by omega))
 clear h0 h1 h2 h3 h4 h5 h6 h7 h8 h9
 have hbT : Below w.heap.size w v9 := hb0.trans ((((((((((k1.trans (k2.mono (Nat.le_refl _))).trans (k3.mono (Nat.le_refl _))).trans (k4.mono (Nat.le_refl _))).trans (k5.mono (Nat.le_refl _))).trans (k6.mono (Nat.le_refl _))).trans (k7.mono (Nat.le_refl _))).trans (k8.mono (Nat.le_refl _))).trans (k9.mono (Nat.le_refl _)))).mono (by omega))
 generalize hC : cellsI clsL = C at hL
 have hCs : C.size = 256 := by rw [← hC]; rfl
 have hCo : C.all (·.oneCell') = true := by rw [← hC]; kernel_rfl
 have hinf : (Tryz.prog.info? 163).map (·.size) = some C.size := by rw [hCs]; kernel_rfl
 refine wp_load_row 163 (.tmp 1) rfl (w.heap.size + 1) rfl 163 C (0, 0) (.array 256 3) hL rfl rfl hinf ?_
 have hzs : Tryz.zeroCells163.size = C.size := by rw [hCs]; rfl
 go_wp2_with fail
 have hst := run_storeCells_from (P := Tryz.prog) w.heap.size 163 C.toList 0 Tryz.zeroCells163 v9 hr (by rw [hzs]; simp) (fun v hv => (Array.all_eq_true_iff_forall_mem.1 hCo) v (by simpa using hv))
 rw [hst]
 simp only [Result.andThen_ok]
 rw [Oper.upon_skip]
 have hrow : (v9.setRow w.heap.size (Tryz.zeroCells163.toList.take 0 ++ C.toList).toArray).heap[w.heap.size]? = some (.cells C 163 (0, 0)) := by
  have := setRow_heap v9 w.heap.size Tryz.zeroCells163 (Tryz.zeroCells163.toList.take 0 ++ C.toList).toArray 163 _ hr
  simpa using this
 have hbR : Below w.heap.size w (v9.setRow w.heap.size (Tryz.zeroCells163.toList.take 0 ++ C.toList).toArray) := below_setRow hbT (Nat.le_refl _) _
 generalize v9.setRow w.heap.size (Tryz.zeroCells163.toList.take 0 ++ C.toList).toArray = vR at hrow hbR ⊢
 clear hst hzs hr hL
 go_wp2_with fail
 refine bodyPost_ret (v := .agg C) (results_cell_row rfl _ _ w.heap.size 163 C (0, 0) (.array 256 3) rfl hrow rfl rfl hinf) rfl ?_
 exact ⟨by rw [hC], hbR⟩

end Go.Proofs.YtabocamjaecaaaaGreatDoor
