/- AB · GV -/
import Derived.Test.YthachfkcgdfdfaaGreatDoorP07
import Derived.RangeFuncNested
import Derived.RangeFuncBound
import Derived.RangeFuncCalls
import Derived.RangeFuncLeaves
import Derived.Shelf.Abstract
import Derived.Shelf.RegionOpen
import Derived.OwnWalkIn
import Derived.TacticsInMore
import Derived.LoopNIn
import Derived.LoopIn
import Derived.RangeFuncBox
import Derived.Maps.AppendAt
/- A6 · VA · A7 -/
/- Walk: the alphabet's letters of a text, as an iterator (alphabet.letters). -/
namespace Go.Proofs.YthachfkcgdfdfaaGreatDoor
open Go.RowKit Classical
open Go.Shelf
attribute [local go_sem] Oper.semAt_some

/-- The letters of t, which stands at an offset, with their offsets; -1 where none begins, and no more. -/
def lseq (L : List (List UInt8)) : Nat → List UInt8 → Nat → List (Nat × Int)
 | 0, _, _ => []
 | f + 1, t, o => if t = [] then [] else match atF L t with
  | none => [(o, -1)]
  | some k => (o, (k : Int)) :: lseq L f (t.drop ((L[k]?.getD []).length)) (o + (L[k]?.getD []).length)

theorem lseq_nil (L : List (List UInt8)) (f o : Nat) : lseq L f [] o = [] := by cases f <;> simp [lseq]

theorem lseq_mem (L : List (List UInt8)) : ∀ (f : Nat) (t : List UInt8) (o : Nat) (y : Nat × Int), y ∈ lseq L f t o → 0 ≤ y.2 ∨ y.2 = -1
 | 0, _, _, _, h => by simp [lseq] at h
 | f + 1, t, o, y, h => by
  rw [lseq] at h
  by_cases ht : t = []
  ·rw [if_pos ht] at h; simp at h
  ·rw [if_neg ht] at h
   cases hk : atF L t with
   | none => rw [hk] at h; simp at h; rw [h]; exact .inr rfl
   | some k =>
    rw [hk] at h
    rcases List.mem_cons.1 h with rfl | h
    ·left; simp
    ·exact lseq_mem L f _ _ y h
theorem lread_done (L : List (List UInt8)) : ∀ (fu f : Nat) (t : List UInt8) (o : Nat) (acc : List Int) (ys : List (Nat × Int)), (∀ l ∈ L, 1 ≤ l.length) → t.length < fu → lseq L fu t o = ys → (∀ y ∈ ys, 0 ≤ y.2) → ys.length ≤ f →
  readGo L f t o acc = ⟨acc ++ ys.map (·.2), 0, 0⟩
 | 0, _, t, _, _, _, _, h, _, _, _ => by omega
 | fu + 1, f, t, o, acc, ys, hL, hf, hs, h0, hlen => by
  rw [lseq] at hs
  by_cases ht : t = []
  ·subst ht; simp at hs; subst hs; simp [readGo_nil]
  ·rw [if_neg ht] at hs
   cases hk : atF L t with
   | none =>
    rw [hk] at hs; subst hs
    have := h0 (o, -1) (by simp)
    simp at this
   | some k =>
    rw [hk] at hs
    simp only at hs
    obtain ⟨l, hl, hp, h1, _⟩ := atN_some hk
    rw [hl] at hs
    simp only [Option.getD_some] at hs
    subst hs
    obtain ⟨f', rfl⟩ : ∃ f', f = f' + 1 := ⟨f - 1, by simp at hlen; omega⟩
    rw [readGo_step ht hk hl]
    have htl : 0 < t.length := List.length_pos_iff.2 ht
    rw [lread_done L fu f' _ _ _ _ hL (by rw [List.length_drop]; omega) rfl (fun y hy => h0 y (by simp [hy])) (by simpa using hlen), List.map_cons, List.append_assoc]
    rfl
theorem lread_char (L : List (List UInt8)) : ∀ (fu f : Nat) (t : List UInt8) (o : Nat) (acc : List Int) (pre rest : List (Nat × Int)) (o' : Nat), (∀ l ∈ L, 1 ≤ l.length) → t.length < fu → lseq L fu t o = pre ++ (o', -1) :: rest → (∀ y ∈ pre, 0 ≤ y.2) → pre.length ≤ f →
  readGo L f t o acc = ⟨[], 3, o'⟩
 | 0, _, t, _, _, _, _, _, _, h, _, _, _ => by omega
 | fu + 1, f, t, o, acc, pre, rest, o', hL, hf, hs, h0, hlen => by
  rw [lseq] at hs
  by_cases ht : t = []
  ·subst ht; simp at hs
  ·rw [if_neg ht] at hs
   cases hk : atF L t with
   | none =>
    rw [hk] at hs
    cases pre with
    | nil => simp at hs; rw [readGo_none ht hk, hs.1]
    | cons p pre => simp at hs
   | some k =>
    rw [hk] at hs
    simp only at hs
    obtain ⟨l, hl, hp, h1, _⟩ := atN_some hk
    rw [hl] at hs
    simp only [Option.getD_some] at hs
    have htl : 0 < t.length := List.length_pos_iff.2 ht
    cases pre with
    | nil => simp at hs
    | cons p pre =>
     simp only [List.cons_append, List.cons.injEq] at hs
     obtain ⟨f', rfl⟩ : ∃ f', f = f' + 1 := ⟨f - 1, by simp at hlen; omega⟩
     rw [readGo_step ht hk hl]
     exact lread_char L fu f' _ _ _ pre rest o' hL (by rw [List.length_drop]; omega) hs.2 (fun y hy => h0 y (by simp [hy])) (by simpa using hlen)
theorem lread_full (L : List (List UInt8)) : ∀ (fu f : Nat) (t : List UInt8) (o : Nat) (acc : List Int) (pre rest : List (Nat × Int)) (x : Nat × Int), (∀ l ∈ L, 1 ≤ l.length) → t.length < fu → lseq L fu t o = pre ++ x :: rest → (∀ y ∈ pre, 0 ≤ y.2) → 0 ≤ x.2 → pre.length = f →
  readGo L f t o acc = ⟨[], 2, x.1⟩
 | 0, _, t, _, _, _, _, _, _, h, _, _, _, _ => by omega
 | fu + 1, f, t, o, acc, pre, rest, x, hL, hf, hs, h0, hx, hlen => by
  rw [lseq] at hs
  by_cases ht : t = []
  ·subst ht; simp at hs
  ·rw [if_neg ht] at hs
   cases hk : atF L t with
   | none =>
    rw [hk] at hs
    cases pre with
    | nil => simp at hs; obtain ⟨rfl, _⟩ := hs; simp at hx
    | cons p pre => simp at hs
   | some k =>
    rw [hk] at hs
    simp only at hs
    obtain ⟨l, hl, hp, h1, _⟩ := atN_some hk
    rw [hl] at hs
    simp only [Option.getD_some] at hs
    have htl : 0 < t.length := List.length_pos_iff.2 ht
    cases pre with
    | nil =>
     simp at hs hlen
     subst hlen
     rw [readGo_full ht hk, ← hs.1]
    | cons p pre =>
     simp only [List.cons_append, List.cons.injEq] at hs
     obtain ⟨f', rfl⟩ : ∃ f', f = f' + 1 := ⟨f - 1, by simp at hlen; omega⟩
     rw [readGo_step ht hk hl]
     exact lread_full L fu f' _ _ _ pre rest x hL (by rw [List.length_drop]; omega) hs.2 (fun y hy => h0 y (by simp [hy])) hx (by simpa using hlen)

theorem atN_short {L : List (List UInt8)} {t : List UInt8} : ∀ n, t.length ≤ n → atN L t n = atN L t t.length := by
 intro n
 induction n with
 | zero => intro h; rw [Nat.le_zero.1 h]
 | succ n ih =>
  intro h
  rcases Nat.lt_or_ge n t.length with h1 | h1
  ·rw [show t.length = n + 1 from by omega]
  ·rw [atN, if_neg (fun hh => by omega), ih h1]
theorem atN_min {L : List (List UInt8)} {t : List UInt8} {m : Nat} (h : m = min 3 t.length) : atN L t m = atN L t 3 := by
 rcases Nat.lt_or_ge t.length 3 with h1 | h1
 ·rw [atN_short 3 (by omega), show m = t.length from by omega]
 ·rw [show m = 3 from by omega]

/-- Three blocks lie as they lay. -/
structure Keep3 (a b c : Nat) (W W' : World) : Prop where
 k1 : W'.heap[a]? = W.heap[a]?
 k2 : W'.heap[b]? = W.heap[b]?
 k3 : W'.heap[c]? = W.heap[c]?
theorem cell_block {W W' : World} {a : Nat} (h : W'.heap[a]? = W.heap[a]?) (o : Nat) : W'.cell? ⟨a, o, none⟩ = W.cell? ⟨a, o, none⟩ := by
 simp only [World.cell?, h]
theorem Keep3.refl (a b c : Nat) (W : World) : Keep3 a b c W W := ⟨rfl, rfl, rfl⟩
theorem Keep3.trans {a b c : Nat} {X Y Z : World} (h : Keep3 a b c X Y) (k : Keep3 a b c Y Z) : Keep3 a b c X Z := ⟨k.k1.trans h.k1, k.k2.trans h.k2, k.k3.trans h.k3⟩
theorem Keep3.drewN {a b c : Nat} {X Y : World} (h : Keep3 a b c X Y) (n : Nat) : Keep3 a b c X (Y.drewN n) := ⟨h.k1, h.k2, h.k3⟩

theorem grown_drewN (w : World) (n : Nat) : w.grownBy (w.drewN n) none := ⟨rfl, rfl, rfl, Nat.le_refl _, fun _ _ _ => rfl⟩

set_option maxRecDepth 100000 in
set_option maxHeartbeats 2000000 in
theorem letters1_in (n : Nat) (hn : 1 ≤ n) (l Bt Bm b : Nat) (A : Alph) (hnd : A.bls.Nodup) (_hpos : ∀ l ∈ A.bls, 1 ≤ l.length ∧ l.length ≤ 3) (s : ByteArray) (hs : s.size ≤ maxLen)
  (J Jx : List (Nat × Int) → World → Prop) (hJ : ∀ p W n, J p W → J p (W.drewN n))
  (hY : ∀ pre x W, J pre W → pre.length < (lseq A.bls (s.size + 1) (bl s) 0).length → YieldAt Fence.wide (n - 1) Tryz.prog l #[.int .i64 (x.1 : Int), .int .i64 x.2] W fun e W' =>
   (e = .returned (.bool true) ∧ J (pre ++ [x]) W' ∧ Keep3 Bt Bm b W W') ∨ (e = .returned (.bool false) ∧ Jx (pre ++ [x]) W'))
  (W : World) (hct : W.cell? ⟨Bt, 0, none⟩ = some (.string s)) (hcm : W.cell? ⟨Bm, 0, none⟩ = some (.map (some b))) (hM : MapIs W b OkStr (pairs A.letters)) (h0 : J [] W) :
  CallsIn Fence.wide n Tryz.prog 145 #[.func (.yield l) #[] #[], .pointer (some ⟨Bt, 0, none⟩), .pointer (some ⟨Bm, 0, none⟩)] W fun e W' => (∃ v, e = .returned v) ∧
   ((∃ ys, ys = lseq A.bls (s.size + 1) (bl s) 0 ∧ J ys W') ∨ (∃ pre, pre <+: lseq A.bls (s.size + 1) (bl s) 0 ∧ Jx pre W')) := by
 have hs2 := hs
 unfold maxLen at hs
 refine callsIn_of_wp Tryz.func145 rfl trivial ?_ rfl
 simp only [Tryz.ntmps145, List.size_toArray, List.length_cons, List.length_nil, Nat.reduceAdd, Nat.reduceSub, Array.replicate_succ, Array.replicate_zero, List.push_toArray, List.append_toArray, List.nil_append, List.cons_append]
 obtain ⟨SQ, hSQ⟩ : ∃ SQ, lseq A.bls (s.size + 1) (bl s) 0 = SQ := ⟨_, rfl⟩
 have HSQ := Lib.hid hSQ
 rw [hSQ] at hY ⊢
 clear hSQ
 gi_wp2
 gi_loopw [4] (fun i wr => ∃ (o f : Nat) (pre : List (Nat × Int)), i = .int .i64 o ∧ o ≤ s.size ∧ s.size - o < f ∧ SQ = pre ++ lseq A.bls f ((bl s).drop o) o ∧ J pre wr ∧ Keep3 Bt Bm b W wr) (fun i _ => s.size - (intOf i).toNat)
 case atStart => exact ⟨0, s.size + 1, [], rfl, Nat.zero_le _, by omega, by rw [← HSQ.out]; rfl, h0, Keep3.refl _ _ _ _⟩
 case round =>
  obtain ⟨o, f, pre, rfl, ho, hf, hseq, hJs, hbw⟩ := hrel
  have Hseq := Lib.hid hseq
  have HJs := Lib.hid hJs
  clear hseq hJs
  have ct : wr.cell? ⟨Bt, 0, none⟩ = some (.string s) := (cell_block hbw.k1 0).trans hct
  by_cases hlt : o < s.size
  ·gi_wp2
   refine wpIn_wide.2 ?_
   go_quiet (fail)
   rw [show min (3 : Int) (↑s.size - ↑o) = ((min 3 (s.size - o) : Nat) : Int) from by omega]
   obtain ⟨m0, hm0⟩ : ∃ m0, min 3 (s.size - o) = m0 := ⟨_, rfl⟩
   rw [hm0]
   obtain ⟨wq, hwq⟩ : ∃ wq, wr.drewN nq = wq := ⟨_, rfl⟩
   have hbq : Keep3 Bt Bm b W wq := by rw [← hwq]; exact hbw.drewN _
   have hJq : J pre wq := by rw [← hwq]; exact hJ _ _ _ HJs.out
   rw [hwq]
   clear hwq ct hbw HJs
   have HJq := Lib.hid hJq
   obtain ⟨T, hT⟩ : ∃ T, (bl s).drop o = T := ⟨_, rfl⟩
   have hTl : T.length = s.size - o := by rw [← hT, List.length_drop, bl_length]
   have HTT := Lib.hid hT
   have hmin : m0 ≤ 3 ∧ m0 ≤ s.size - o := by omega
   have HAt := Lib.hid (show atN A.bls T m0 = atN A.bls T 3 from atN_min (by rw [hTl]; omega))
   have hTne : T ≠ [] := fun e => by rw [e] at hTl; simp at hTl; omega
   have HTl := Lib.hid hTl
   have HTne := Lib.hid hTne
   obtain ⟨f', rfl⟩ : ∃ f', f = f' + 1 := ⟨f - 1, by omega⟩
   clear hJq hT hm0 hTl hTne
   gi_wp2
   gi_loopw [5, 6] (fun i5 i6 wx => ∃ m : Nat, i5 = .int .i64 (-1) ∧ i6 = .int .i64 m ∧ m ≤ m0 ∧ atN A.bls T m = atN A.bls T 3 ∧ J pre wx ∧ Keep3 Bt Bm b W wx) (fun _ i6 _ => (intOf i6).toNat)
   case atStart => exact ⟨m0, rfl, rfl, Nat.le_refl _, HAt.out, HJq.out, hbq⟩
   case round =>
    obtain ⟨m, rfl, rfl, hm, hat, hJx, hbx⟩ := hrel
    have Hat := Lib.hid hat
    clear hat
    by_cases h0m : m = 0
    ·subst h0m
     have hnone : atF A.bls T = none := Hat.out.symm
     have hsq : SQ = pre ++ (o, (-1 : Int)) :: [] := by
      rw [Hseq.out, HTT.out, lseq, if_neg HTne.out, hnone]
     obtain ⟨fn, tmps, assign, body, hy, hR⟩ := hY pre (o, (-1 : Int)) wr hJx (by rw [hsq]; simp)
     have Hsq := Lib.hid hsq
     clear hsq hnone
     dsimp only at hy
     gi_wp2
     refine hR.mono ?_
     rintro e W3 (⟨rfl, hJ3, hk3⟩ | ⟨rfl, hJx3⟩)
     ·gi_wp2
      refine bodyPost_ret (results_none rfl _ _ _) rfl ?_
      exact ⟨⟨_, rfl⟩, .inl ⟨SQ, rfl, by rw [Hsq.out]; exact hJ3⟩⟩
     ·gi_wp2
      refine bodyPost_ret (results_none rfl _ _ _) rfl ?_
      exact ⟨⟨_, rfl⟩, .inr ⟨_, by rw [Hsq.out]; exact List.prefix_refl _, hJx3⟩⟩
    ·have hwrp : IntKind.i64.wrap ((o : Int) + (m : Int)) = (o : Int) + (m : Int) := IntWalk.i64_in _ (by omega)
     have hnn : 0 ≤ (o : Int) + (m : Int) := by omega
     have htn : ((o : Int) + (m : Int)).toNat = o + m := by omega
     have hle1 : (o : Int) + (m : Int) ≤ (s.size : Int) := by omega
     have hpos' : (0 : Int) < (m : Int) := by omega
     have ct : wr.cell? ⟨Bt, 0, none⟩ = some (.string s) := (cell_block hbx.k1 0).trans hct
     have cm : wr.cell? ⟨Bm, 0, none⟩ = some (.map (some b)) := (cell_block hbx.k2 0).trans hcm
     have hMr := hM.block hbx.k3
     obtain ⟨piece, hpiece⟩ : ∃ piece, s.extract o (o + m) = piece := ⟨_, rfl⟩
     have hpb : bl piece = T.take m := by
      rw [← hpiece, ← HTT.out]; unfold bl; rw [Lib.extract_data, show o + m - o = m from by omega]
     by_cases hin : piece ∈ A.letters
     ·obtain ⟨k, hk⟩ := List.getElem?_of_mem hin
      have hlk := fun n => look_pair_some (hMr.drewN n) hk
      rw [← hpiece] at hlk
      have hbk : A.bls[k]? = some (T.take m) := by rw [Alph.bls, List.getElem?_map, hk]; simp [hpb]
      have hsome : atF A.bls T = some k := by
       unfold atF
       rw [← Hat.out]
       obtain ⟨m', rfl⟩ : ∃ m', m = m' + 1 := ⟨m - 1, by omega⟩
       rw [atN, if_pos ⟨by rw [HTl.out]; omega, List.mem_of_getElem? hbk⟩, idxOf_getElem hnd hbk]
      have hlenm : (T.take m).length = m := by rw [List.length_take, HTl.out]; omega
      have hsq : SQ = pre ++ (o, (k : Int)) :: lseq A.bls f' ((bl s).drop (o + m)) (o + m) := by
       rw [Hseq.out, HTT.out, lseq, if_neg HTne.out, hsome]
       simp only [hbk, Option.getD_some, hlenm]
       rw [← HTT.out, List.drop_drop]
      have Hsq := Lib.hid hsq
      clear hsq hsome hbk hk hin hpb hlenm hpiece
      gi_wp2
      refine wpIn_wide.2 ?_
      go_quiet (fail)
      obtain ⟨fn, tmps, assign, body, hy, hR⟩ := hY pre (o, (k : Int)) (wr.drewN nq) (hJ _ _ _ hJx) (by rw [Hsq.out]; simp)
      dsimp only at hy
      gi_wp2
      refine hR.mono ?_
      rintro e W3 (⟨rfl, hJ3, hk3⟩ | ⟨rfl, hJx3⟩)
      ·gi_wp2
       exact ⟨⟨o + m, f', pre ++ [(o, (k : Int))], by go_num, by omega, by omega, by rw [Hsq.out]; simp, hJ3, (hbx.drewN nq).trans hk3⟩, by simp [intOf]; omega⟩
      ·gi_wp2
       refine bodyPost_ret (results_none rfl _ _ _) rfl ?_
       exact ⟨⟨_, rfl⟩, .inr ⟨_, by rw [Hsq.out]; exact ⟨lseq A.bls f' ((bl s).drop (o + m)) (o + m), by simp⟩, hJx3⟩⟩
     ·have hlk := fun n => look_pair_none (hMr.drewN n) hin
      rw [← hpiece] at hlk
      have hnext : atN A.bls T (m - 1) = atN A.bls T 3 := by
       rw [← Hat.out]
       obtain ⟨m', rfl⟩ : ∃ m', m = m' + 1 := ⟨m - 1, by omega⟩
       rw [atN, if_neg]
       ·rfl
       ·rintro ⟨_, h⟩
        obtain ⟨l', hl', he⟩ := List.mem_map.1 h
        rw [← hpb] at he
        exact hin (bl_inj he ▸ hl')
      have Hnext := Lib.hid hnext
      clear hnext hin hpb hpiece
      gi_wp2
      refine wpIn_wide.2 ?_
      go_quiet (fail)
      gi_wp2
      exact ⟨⟨m - 1, rfl, by rw [show ((m - 1 : Nat) : Int) = (m : Int) - 1 from by omega], by omega, Hnext.out, hJ _ _ _ hJx, hbx.drewN nq⟩, by simp [intOf]; omega⟩
  ·obtain rfl : o = s.size := by omega
   gi_wp2
   go_end0
   refine ⟨⟨_, rfl⟩, .inl ⟨SQ, rfl, ?_⟩⟩
   have := Hseq.out
   rw [List.drop_of_length_le (by rw [bl_length]; exact Nat.le_refl _), lseq_nil, List.append_nil] at this
   rw [this]; exact HJs.out

set_option maxHeartbeats 1000000 in
theorem letters_any (b : Nat) (s : ByteArray) (w : World) :
  Calls Tryz.prog 86 #[.map (some b), .string s] w fun e w' => e = .returned (.func (.func 145) #[] #[.pointer (some ⟨w.heap.size + 1, 0, none⟩), .pointer (some ⟨w.heap.size, 0, none⟩)]) ∧
   w' = (w.alloc (.cells #[.map (some b)] 141)).alloc (.cells #[.string s] 9) := by
 go_enter Tryz.func86, Tryz.ntmps86
 go_wp2
 go_ret
 exact ⟨rfl, rfl⟩

end Go.Proofs.YthachfkcgdfdfaaGreatDoor

/- Plain words on alphabets and empty texts. No program in sight. -/
namespace Go.Proofs.YthachfkcgdfdfaaGreatDoor
open Go.RowKit Classical

/-- The letters of a text of at most some letters, which may be empty. -/
def lettersL (L : List (List UInt8)) (t : List UInt8) : List Int := if t = [] then [] else (readL L t).letters
def LettersOk (L : List (List UInt8)) (t : List UInt8) (most : Nat) : Prop := t = [] ∨ (readL L t).err = 0 ∧ (readL L t).letters.length ≤ most

theorem empty_iff (s : ByteArray) : s.toList.isEmpty = true ↔ bl s = [] := by
 rw [ByteArray.toList_eq]; unfold bl; cases s.data.toList <;> simp
theorem empty_no {s : ByteArray} (h : bl s ≠ []) : s.toList.isEmpty = false := by
 rw [← Bool.not_eq_true, empty_iff]; exact h
theorem nil_yes {s : ByteArray} (h : bl s = []) : s.toList = [] := by
 rw [ByteArray.toList_eq]; exact h

theorem rfl_pair {u : Value} {a b : Bool} (h : a = b) : Ending.returned (.tuple #[u, .bool a]) = .returned (.tuple #[u, .bool b]) := by rw [h]
end Go.Proofs.YthachfkcgdfdfaaGreatDoor

/- Walk: alphabet.Read. -/
namespace Go.Proofs.YthachfkcgdfdfaaGreatDoor
open Go.RowKit Classical
open Go.Shelf
attribute [local go_sem] Oper.semAt_some

/-- What reading a word gives. -/
noncomputable def readA (A : Alph) (s : ByteArray) : Rd := if Valid10 A then readL A.bls (bl s) else ⟨[], 1, 0⟩
def ReadPost (R : Rd) (w : World) (e : Ending) (w' : World) : Prop :=
 ∃ v, e = .returned (.tuple #[v, .int .i64 R.err, .int .i64 R.off]) ∧ w'.ownsRow w.heap.size 3 1 v R.letters.length (nums R.letters) ∧ Below w.heap.size w w'

theorem bodyPostM_ret {F : Fence} {n : Nat} {P : Program} {fn : Func} {R : Ending → World → Prop} {a : Act} {w : World} {v : Value}
  (hr : (results fn a.tmps).run P w = .ok v w) (hd : a.defers = []) (hR : R (.returned v) w) : bodyPostM F n P fn R .ret a w := by
 show LeavesInM F n P fn a.tmps R a.defers .returning w
 rw [hd]
 exact ⟨v, hr, hR⟩
theorem bodyPostM_mark {F : Fence} {n : Nat} {P : Program} {fn : Func} {R : Ending → World → Prop} {a : Act} {w : World} {v : Value} {D : Nat}
  (hK : w.heap[D]? = some (.deferred (some []))) (hr : (results fn a.tmps).run P (w.putObj D (.deferred none)) = .ok v (w.putObj D (.deferred none))) (hd : a.defers = [{ target := .collected D, args := #[] }]) (hR : R (.returned v) (w.putObj D (.deferred none))) : bodyPostM F n P fn R .ret a w := by
 show LeavesInM F n P fn a.tmps R a.defers .returning w
 rw [hd]
 exact ⟨by simp, .inl ⟨_, _, rfl, run_takeDeferred hK, v, hr, hR⟩⟩

theorem own_blk {W W' : World} {b : Nat} {cs : Array Value} {t : TypeId} {row : Option Nat} (h : Blk W b cs t) (hg : W.grownBy W' row) (hr : ∀ r, row = some r → ∃ o : Obj, W.heap[r]? = some o ∧ o.isCells = false) : Blk W' b cs t := by
 refine h.grown hg (fun e => ?_)
 obtain ⟨ob, ho, hc⟩ := hr _ e.symm
 rw [show W.heap[b]? = _ from h] at ho
 cases ho
 cases hc

/-- A block of another type behind an append to a row and a store into another block. -/
theorem blk_appended {W w1 : World} {b : Nat} {cs : Array Value} {t : TypeId} (h : Blk W b cs t) {base size k : Nat} {e : TypeId} {v : Value} {xs : List Value} (hrow : W.ownsRow base e size v k xs) (hne : e ≠ t) {tmp : Obj} (hg : (W.alloc tmp).grownBy w1 v.ownBlock) {p : Addr} (hp : b ≠ p.block) (u : Value) :
  Blk (w1.setCell p u) b cs t :=
 ((h.alloc tmp).grown hg (fun e' => h.own_ne hrow hne e'.symm)).far hp u

/-- Three variables, each a block of its own, written one after the other. -/
theorem blk3 {w1 : World} {x : Nat} {t1 t2 t3 : TypeId} {c1 c2 c3 : Value} (h1 : Blk w1 (x + 1) #[c1] t1) (h2 : Blk w1 (x + 1 + 1) #[c2] t2) (h3 : Blk w1 (x + 1 + 1 + 1) #[c3] t3) (v1 v2 v3 : Value) {w : World} {B : Nat} (hb : Below B w w1) (hB : B ≤ x) :
  (((w1.setCell ⟨x + 1, 0, none⟩ v1).setCell ⟨x + 1 + 1, 0, none⟩ v2).setCell ⟨x + 1 + 1 + 1, 0, none⟩ v3).cell? ⟨x + 1, 0, none⟩ = some v1 ∧
  (((w1.setCell ⟨x + 1, 0, none⟩ v1).setCell ⟨x + 1 + 1, 0, none⟩ v2).setCell ⟨x + 1 + 1 + 1, 0, none⟩ v3).cell? ⟨x + 1 + 1, 0, none⟩ = some v2 ∧
  (((w1.setCell ⟨x + 1, 0, none⟩ v1).setCell ⟨x + 1 + 1, 0, none⟩ v2).setCell ⟨x + 1 + 1 + 1, 0, none⟩ v3).cell? ⟨x + 1 + 1 + 1, 0, none⟩ = some v3 ∧
  Below B w (((w1.setCell ⟨x + 1, 0, none⟩ v1).setCell ⟨x + 1 + 1, 0, none⟩ v2).setCell ⟨x + 1 + 1 + 1, 0, none⟩ v3) := by
 have k1 : Blk _ (x + 1) #[v1] t1 := ((h1.set_ 0 v1).far (p := ⟨x + 1 + 1, 0, none⟩) (by simp) v2).far (p := ⟨x + 1 + 1 + 1, 0, none⟩) (by show x + 1 ≠ x + 1 + 1 + 1; omega) v3
 have k2 : Blk _ (x + 1 + 1) #[v2] t2 := ((h2.far (p := ⟨x + 1, 0, none⟩) (by simp) v1).set_ 0 v2).far (p := ⟨x + 1 + 1 + 1, 0, none⟩) (by simp) v3
 have k3 : Blk _ (x + 1 + 1 + 1) #[v3] t3 := ((h3.far (p := ⟨x + 1, 0, none⟩) (by show x + 1 + 1 + 1 ≠ x + 1; omega) v1).far (p := ⟨x + 1 + 1, 0, none⟩) (by show x + 1 + 1 + 1 ≠ x + 1 + 1; omega) v2).set_ 0 v3
 exact ⟨k1.cell 0, k2.cell 0, k3.cell 0, ((hb.setCell (p := ⟨x + 1, 0, none⟩) (by show B ≤ x + 1; omega) _).setCell (p := ⟨x + 1 + 1, 0, none⟩) (by show B ≤ x + 1 + 1; omega) _).setCell (p := ⟨x + 1 + 1 + 1, 0, none⟩) (by show B ≤ x + 1 + 1 + 1; omega) _⟩

/-- Three cells of results, each a block of its own. -/
theorem read_ret {A : Alph} {s : ByteArray} {R : Rd} (hR : readA A s = R) (hl : R.letters = []) {w W : World} {n : Nat} {tmps : Array Value} {b1 b2 b3 : Nat} (t1 : tmps[4]?.getD undef = .pointer (some ⟨b1, 0, none⟩)) (t2 : tmps[5]?.getD undef = .pointer (some ⟨b2, 0, none⟩)) (t3 : tmps[6]?.getD undef = .pointer (some ⟨b3, 0, none⟩))
  (m1 : W.cell? ⟨b1, 0, none⟩ = some (.slice none 0 0)) (m2 : W.cell? ⟨b2, 0, none⟩ = some (.int .i64 R.err)) (m3 : W.cell? ⟨b3, 0, none⟩ = some (.int .i64 R.off)) (hb : Below w.heap.size w W) :
  bodyPostM Fence.wide n Tryz.prog Tryz.f52 (ReadPost (readA A s) w) .ret { tmps := tmps, defers := [] } W := by
 refine bodyPostM_ret (v := .tuple #[.slice none 0 0, .int .i64 R.err, .int .i64 R.off]) ?_ rfl ?_
 ·simp [results, Tryz.results52, go_sem, t1, t2, t3, m1, m2, m3]
 ·rw [hR]
  refine ⟨_, rfl, ?_, hb⟩
  rw [hl]
  exact World.ownsRow_nil _ _ _ _

/-- Between two rounds of Read's loop. -/
def ReadI (w2 : World) (o b : Nat) (s : ByteArray) (pre : List (Nat × Int)) (W : World) : Prop :=
 (∃ v, Boxed W o 85 v ∧ W.ownsRow o 3 1 v pre.length (nums (pre.map (·.2)))) ∧ Blk W (o + 1) #[.map (some b)] 141 ∧ Blk W (o + 1 + 1) #[.string s] 9 ∧ (∀ y ∈ pre, 0 ≤ y.2) ∧ pre.length ≤ 24 ∧ Below o w2 W
/-- A round has left. -/
def ReadX (w : World) (c : Code) (pre : List (Nat × Int)) (W : World) : Prop :=
 c = .ret ∧ ∃ pre' x err, pre = pre' ++ [x] ∧ (∀ y ∈ pre', 0 ≤ y.2) ∧ (x.2 < 0 ∧ err = 3 ∧ pre'.length ≤ 24 ∨ 0 ≤ x.2 ∧ err = 2 ∧ pre'.length = 24) ∧ Blk W (w.heap.size + 1) #[.slice none 0 0] 85 ∧ Blk W (w.heap.size + 1 + 1) #[.int .i64 err] 33 ∧ Blk W (w.heap.size + 1 + 1 + 1) #[.int .i64 (x.1 : Int)] 3 ∧ Below w.heap.size w W
theorem keeps3 (W : World) (p q r : Addr) (u v x : Value) (B : Nat) : KeepsFrom B W (((W.setCell p u).setCell q v).setCell r x) :=
 (((KeepsOthers.setCell _ _ _).trans (KeepsOthers.setCell _ _ _)).trans (KeepsOthers.setCell _ _ _)).from _
theorem blk3' {w1 : World} {x : Nat} {t1 t2 t3 : TypeId} {c1 c2 c3 : Value} (h1 : Blk w1 (x + 1) #[c1] t1) (h2 : Blk w1 (x + 1 + 1) #[c2] t2) (h3 : Blk w1 (x + 1 + 1 + 1) #[c3] t3) (v1 v2 v3 : Value) {w : World} {B : Nat} (hb : Below B w w1) (hB : B ≤ x) :
  Blk (((w1.setCell ⟨x + 1, 0, none⟩ v1).setCell ⟨x + 1 + 1, 0, none⟩ v2).setCell ⟨x + 1 + 1 + 1, 0, none⟩ v3) (x + 1) #[v1] t1 ∧ Blk (((w1.setCell ⟨x + 1, 0, none⟩ v1).setCell ⟨x + 1 + 1, 0, none⟩ v2).setCell ⟨x + 1 + 1 + 1, 0, none⟩ v3) (x + 1 + 1) #[v2] t2 ∧
  Blk (((w1.setCell ⟨x + 1, 0, none⟩ v1).setCell ⟨x + 1 + 1, 0, none⟩ v2).setCell ⟨x + 1 + 1 + 1, 0, none⟩ v3) (x + 1 + 1 + 1) #[v3] t3 ∧ Below B w (((w1.setCell ⟨x + 1, 0, none⟩ v1).setCell ⟨x + 1 + 1, 0, none⟩ v2).setCell ⟨x + 1 + 1 + 1, 0, none⟩ v3) :=
 ⟨((h1.set_ 0 v1).far (p := ⟨x + 1 + 1, 0, none⟩) (by simp) v2).far (p := ⟨x + 1 + 1 + 1, 0, none⟩) (by show x + 1 ≠ x + 1 + 1 + 1; omega) v3,
 ((h2.far (p := ⟨x + 1, 0, none⟩) (by simp) v1).set_ 0 v2).far (p := ⟨x + 1 + 1 + 1, 0, none⟩) (by simp) v3,
 ((h3.far (p := ⟨x + 1, 0, none⟩) (by show x + 1 + 1 + 1 ≠ x + 1; omega) v1).far (p := ⟨x + 1 + 1, 0, none⟩) (by show x + 1 + 1 + 1 ≠ x + 1 + 1; omega) v2).set_ 0 v3,
 (blk3 h1 h2 h3 v1 v2 v3 hb hB).2.2.2⟩
/-- A row in blocks from o on, behind stores below o. -/
theorem row3 {W : World} {o : Nat} {e : TypeId} {size n : Nat} {v : Value} {xs : List Value} (h : W.ownsRow o e size v n xs) {p q r : Addr} (hp : p.block < o) (hq : q.block < o) (hr : r.block < o) (u1 u2 u3 : Value) : (((W.setCell p u1).setCell q u2).setCell r u3).ownsRow o e size v n xs := by
 have key : ∀ {W : World} {a : Addr}, W.ownsRow o e size v n xs → a.block < o → ∀ u, (W.setCell a u).ownsRow o e size v n xs := fun {W a} h ha u =>
  own_setCell h (fun e => by have := (h.lt _ e).1; omega) u
 exact key (key (key h hp u1) hq u2) hr u3
theorem blk_putObj {W : World} {b : Nat} {cs : Array Value} {t : TypeId} (h : Blk W b cs t) {D : Nat} (hD : b ≠ D) (o : Obj) : Blk (W.putObj D o) b cs t := (World.putObj_heap_other hD).trans h
/-- The same behind a loop over an iterator. -/
theorem read_mark {A : Alph} {s : ByteArray} {R : Rd} (hR : readA A s = R) {w W : World} {n x D : Nat} {tmps : Array Value} {t1' t2' t3' : TypeId} {v : Value} (t1 : tmps[4]?.getD undef = .pointer (some ⟨x + 1, 0, none⟩)) (t2 : tmps[5]?.getD undef = .pointer (some ⟨x + 1 + 1, 0, none⟩)) (t3 : tmps[6]?.getD undef = .pointer (some ⟨x + 1 + 1 + 1, 0, none⟩))
  (hD : x + 3 < D) (hw : w.heap.size ≤ x) (hK : W.heap[D]? = some (.deferred (some []))) (k1 : Blk W (x + 1) #[v] t1') (k2 : Blk W (x + 1 + 1) #[.int .i64 R.err] t2') (k3 : Blk W (x + 1 + 1 + 1) #[.int .i64 R.off] t3')
  (hrow : W.ownsRow w.heap.size 3 1 v R.letters.length (nums R.letters)) (hb : Below w.heap.size w W) :
  bodyPostM Fence.wide n Tryz.prog Tryz.f52 (ReadPost (readA A s) w) .ret { tmps := tmps, defers := [{ target := .collected D, args := #[] }] } W := by
 have m1 := (blk_putObj k1 (D := D) (by omega) (.deferred none)).cell 0
 have m2 := (blk_putObj k2 (D := D) (by omega) (.deferred none)).cell 0
 have m3 := (blk_putObj k3 (D := D) (by omega) (.deferred none)).cell 0
 simp only [List.getElem?_toArray, List.getElem?_cons_zero] at m1 m2 m3
 refine bodyPostM_mark (v := .tuple #[v, .int .i64 R.err, .int .i64 R.off]) hK ?_ rfl ?_
 ·simp [results, Tryz.results52, go_sem, t1, t2, t3, m1, m2, m3]
 ·rw [hR]
  exact ⟨_, rfl, ownsRow_putObj hrow _ hK rfl, hb.trans (((Below.refl _ W).grown (grownBy_putObj' W D _) hb.size (fun k e => by cases e; omega)))⟩

set_option maxRecDepth 100000 in
set_option maxHeartbeats 2000000 in
theorem Read_any (A : Alph) (v : Value) (s : ByteArray) (hs : s.size ≤ maxLen) (w : World) (h : AlphAt w w.heap.size v A) :
  Calls Tryz.prog 52 #[v, .string s] w (ReadPost (readA A s) w) := by
 have hA := h
 obtain ⟨la, lc, sa, sc, rfl, hn, hl1, hs1, hls, hl, hsm⟩ := h
 obtain ⟨i0, hi, hz0, hz1, hz2⟩ := info_parts info_int
 refine (callsIn_wide (n := 5)).1 ?_
 refine callsIn_of_wp_marks Tryz.func52 rfl trivial ?_ rfl
 simp only [Tryz.ntmps52, List.size_toArray, List.length_cons, List.length_nil, Nat.reduceAdd, Nat.reduceSub, Array.replicate_succ, Array.replicate_zero, List.push_toArray, List.append_toArray, List.nil_append, List.cons_append]
 refine wpIn_wide.2 ?_
 go_wp2_with fail
 obtain ⟨W0, hW0⟩ : ∃ W0 : World, W0 = (((w.alloc (.cells #[.string A.name, .slice la A.letters.length lc, .slice sa A.small.length sc] 89)).alloc (.cells #[.slice none 0 0] 85)).alloc (.cells #[.int .i64 0] 33)).alloc (.cells #[.int .i64 0] 3) := ⟨_, rfl⟩
 rw [← hW0]
 have hw0 : Below w.heap.size w W0 := by rw [hW0]; exact ((((Below.refl _ _).alloc (Nat.le_refl _) _).alloc (by simp) _).alloc (by simp; omega) _).alloc (by simp; omega) _
 have hsz : W0.heap.size = w.heap.size + 4 := by rw [hW0]; simp
 have hB0 : Blk W0 w.heap.size #[.string A.name, .slice la A.letters.length lc, .slice sa A.small.length sc] 89 := by rw [hW0]; exact (((Blk.new _ _ _).alloc _).alloc _).alloc _
 have hB1 : Blk W0 (w.heap.size + 1) #[.slice none 0 0] 85 := by rw [hW0]; have := ((Blk.new (w.alloc (.cells #[.string A.name, .slice la A.letters.length lc, .slice sa A.small.length sc] 89)) #[.slice none 0 0] 85).alloc (.cells #[.int .i64 0] 33)).alloc (.cells #[.int .i64 0] 3); simpa using this
 have hB2 : Blk W0 (w.heap.size + 2) #[.int .i64 0] 33 := by rw [hW0]; have := (Blk.new ((w.alloc (.cells #[.string A.name, .slice la A.letters.length lc, .slice sa A.small.length sc] 89)).alloc (.cells #[.slice none 0 0] 85)) #[.int .i64 0] 33).alloc (.cells #[.int .i64 0] 3); simpa using this
 have hB3 : Blk W0 (w.heap.size + 3) #[.int .i64 0] 3 := by rw [hW0]; have := Blk.new (((w.alloc (.cells #[.string A.name, .slice la A.letters.length lc, .slice sa A.small.length sc] 89)).alloc (.cells #[.slice none 0 0] 85)).alloc (.cells #[.int .i64 0] 33)) #[.int .i64 0] 3; simpa using this
 have hA0 : AlphAt W0 W0.heap.size (.agg #[.string A.name, .slice la A.letters.length lc, .slice sa A.small.length sc]) A := (hA.below hw0 (Nat.le_refl _)).more hw0.size
 clear hW0
 refine (AValid_any A _ _ hA0).mono ?_
 rintro e w1 ⟨rfl, hb1⟩
 have hb1w := hw0.trans (hb1.mono hw0.size)
 have e11 : w.heap.size + 1 + 1 = w.heap.size + 2 := rfl
 have HB := Lib.hid (fun (wr : World) (hbr : Below W0.heap.size W0 wr) => (show Blk wr w.heap.size #[.string A.name, .slice la A.letters.length lc, .slice sa A.small.length sc] 89 ∧ Blk wr (w.heap.size + 1) #[.slice none 0 0] 85 ∧ Blk wr (w.heap.size + 2) #[.int .i64 0] 33 ∧ Blk wr (w.heap.size + 3) #[.int .i64 0] 3 from
  ⟨hB0.below hbr (by omega), hB1.below hbr (by omega), hB2.below hbr (by omega), hB3.below hbr (by omega)⟩))
 clear hB0 hB1 hB2 hB3 e11
 have m1 := (HB.out w1 hb1).2.1.cell 0
 have f1 := (HB.out w1 hb1).2.1.frozen 0
 have m2 : w1.cell? ⟨w.heap.size + 1 + 1, 0, none⟩ = _ := (HB.out w1 hb1).2.2.1.cell 0
 have f2 : w1.frozen? ⟨w.heap.size + 1 + 1, 0, none⟩ = _ := (HB.out w1 hb1).2.2.1.frozen 0
 have m3 : w1.cell? ⟨w.heap.size + 1 + 1 + 1, 0, none⟩ = _ := (HB.out w1 hb1).2.2.2.cell 0
 have f3 : w1.frozen? ⟨w.heap.size + 1 + 1 + 1, 0, none⟩ = _ := (HB.out w1 hb1).2.2.2.frozen 0
 by_cases hv : Valid10 A
 ·rw [decide_eq_true hv]
  by_cases ht : bl s = []
  ·have e1 := nil_yes ht
   have e2 := (empty_iff s).2 ht
   have hK := Lib.hid (show readA A s = ⟨[], 6, 0⟩ by rw [readA, if_pos hv, readL, if_pos ht])
   clear hv ht
   go_wp2_with fail
   obtain ⟨q1, q2, q3, q4⟩ := blk3 (HB.out w1 hb1).2.1 (HB.out w1 hb1).2.2.1 (HB.out w1 hb1).2.2.2 (.slice none 0 0) (.int .i64 6) (.int .i64 0) hb1w (Nat.le_refl _)
   exact read_ret hK.out rfl rfl rfl rfl q1 q2 q3 q4
  ·have e1 := empty_no ht
   have Hv := Lib.hid hv
   have Ht := Lib.hid ht
   have hf := hv.1
   have hA1 : AlphAt w1 w1.heap.size (.agg #[.string A.name, .slice la A.letters.length lc, .slice sa A.small.length sc]) A := (hA.below hb1w (Nat.le_refl _)).more hb1w.size
   have a0 : w1.cell? ⟨w.heap.size, 0, none⟩ = _ := (HB.out w1 hb1).1.cell 0
   have a1 : w1.cell? ⟨w.heap.size, 1, none⟩ = _ := (HB.out w1 hb1).1.cell 1
   have a2 : w1.cell? ⟨w.heap.size, 2, none⟩ = _ := (HB.out w1 hb1).1.cell 2
   simp only [List.getElem?_toArray, List.getElem?_cons_zero, List.getElem?_cons_succ] at a0 a1 a2
   clear hv ht m1 f1 m2 f2 m3 f3
   go_wp2_with fail
   refine (places_any A _ _ hA1).mono ?_
   rintro e w2 ⟨mv, rfl, hmv, hb2⟩
   obtain ⟨b, rfl, hbb, hM⟩ := hmv hf
   rw [decide_eq_true hf]
   have Hf := Lib.hid hf
   have hb2W := hb1.trans (hb2.mono hb1.size)
   have hb2w := hw0.trans (hb2W.mono hw0.size)
   have HM := Lib.hid hM
   clear hf hmv hM a0 a1 a2
   go_wp2_with fail
   refine (letters_any b s _).mono ?_
   rintro e w3 ⟨rfl, hw3⟩
   go_wp2_with fail
   clear hw3
   obtain ⟨W3, hW3⟩ : ∃ W3 : World, W3 = ((w2.alloc (.cells #[.slice none 0 0] 85)).alloc (.cells #[.map (some b)] 141)).alloc (.cells #[.string s] 9) := ⟨_, rfl⟩
   rw [← hW3]
   have hbo : b < w2.heap.size := HM.out.lt
   have g0 : Boxed W3 w2.heap.size 85 (.slice none 0 0) := by rw [hW3]; exact ((Boxed.new w2 _ _).alloc _).alloc _
   have g1 : Blk W3 (w2.heap.size + 1) #[.map (some b)] 141 := by rw [hW3]; have := (Blk.new (w2.alloc (.cells #[.slice none 0 0] 85)) #[.map (some b)] 141).alloc (.cells #[.string s] 9); simpa using this
   have g2 : Blk W3 (w2.heap.size + 1 + 1) #[.string s] 9 := by rw [hW3]; have := Blk.new ((w2.alloc (.cells #[.slice none 0 0] 85)).alloc (.cells #[.map (some b)] 141)) #[.string s] 9; simpa using this
   have hb3 : Below w2.heap.size w2 W3 := by rw [hW3]; exact (((Below.refl _ _).alloc (Nat.le_refl _) _).alloc (by simp) _).alloc (by simp; omega) _
   have hs3 : W3.heap.size = w2.heap.size + 3 := by rw [hW3]; simp
   have hxo : w.heap.size + 4 ≤ w2.heap.size := by have := hb2W.size; omega
   obtain ⟨o, ho⟩ : ∃ o, w2.heap.size = o := ⟨_, rfl⟩
   rw [ho] at g0 g1 g2 hb3 hs3 hxo hbo ⊢
   clear hW3
   have hlen3 := Hf.out.len
   have hnd := Hf.out.nodup
   refine (wpIn_wide (n := 5)).1 ?_
   refine wpIn_rangeFunc_ownG (α := Nat × Int) (encs := fun x => #[.int .i64 (x.1 : Int), .int .i64 x.2]) (Kp := Keep3 (o + 1 + 1) (o + 1) b) (S := fun ys => ys = lseq A.bls (s.size + 1) (bl s) 0) (Sp := fun pre => pre <+: lseq A.bls (s.size + 1) (bl s) 0) (N := (lseq A.bls (s.size + 1) (bl s) 0).length) (w0 := W3)
    rfl (by omega) (gf := 145) (lb := #[.pointer (some ⟨o + 1 + 1, 0, none⟩), .pointer (some ⟨o + 1, 0, none⟩)]) rfl trivial (enters_of Tryz.func145 (by kernel_rfl) rfl)
    ?seq (fun h k => h.trans k) ?kb (Below.refl _ _) (fun _ => rfl)
    (ReadI w2 o b s)
    (ReadX w)
    ?hI ?hIx ?h0
    (fun x => { tmps := #[.agg #[.string A.name, .slice la A.letters.length lc, .slice sa A.small.length sc],
     .string s, .pointer (some ⟨w.heap.size, 0, none⟩), undef, .pointer (some ⟨w.heap.size + 1, 0, none⟩), .pointer (some ⟨w.heap.size + 1 + 1, 0, none⟩), .pointer (some ⟨w.heap.size + 1 + 1 + 1, 0, none⟩), .map (some b), .bool true,
     .pointer (some ⟨o, 0, none⟩), .int .i64 (x.1 : Int), .int .i64 x.2, .agg #[.string A.name, .slice la A.letters.length lc, .slice sa A.small.length sc], .bool true, .bool false, .string s, .bool false,
     .tuple #[.map (some b), .bool true], .agg #[.string A.name, .slice la A.letters.length lc, .slice sa A.small.length sc], .tuple #[.map (some b), .bool true], .map (some b), .bool true, .map (some b), .string s,
     .func (.func 145) #[] #[.pointer (some ⟨o + 1 + 1, 0, none⟩), .pointer (some ⟨o + 1, 0, none⟩)], .int .i64 (x.1 : Int), .int .i64 x.2, undef, undef, undef, undef, undef, undef, undef, undef, undef, undef, undef, undef, undef, undef], defers := [] }) ?assign ?body ?done ?stop
   case seq =>
    intro l J Jx W hW hJ hJx hY h0
    exact letters1_in 4 (by omega) l (o + 1 + 1) (o + 1) b A hnd hlen3 s hs J Jx (fun p W n h => hJ p W (W.drewN n) none h (grown_drewN W n) (by simp)) hY W ((g2.below hW (by omega)).cell 0) ((g1.below hW (by omega)).cell 0) ((HM.out.below (hb3) hbo).below hW (by omega)) h0
   case kb =>
    intro W l ob ob' hl _ _ _
    exact ⟨World.putObj_heap_other (by omega), World.putObj_heap_other (by omega), World.putObj_heap_other (by omega)⟩
   case hI =>
    rintro pre X Y row ⟨h1, h2, h3, h4, h5, h6⟩ hg hr
    refine ⟨holdsRow_own o o 85 3 1 (fun pre : List (Nat × Int) => pre.length) (fun pre => nums (pre.map (·.2))) (fun _ _ => True) pre X Y row (by obtain ⟨v, hv1, hv2⟩ := h1; exact ⟨v, hv1, hv2, trivial⟩) hg (fun r e => (hr r e).2) |>.imp (fun v hv => ⟨hv.1, hv.2.1⟩), own_blk h2 hg (fun r e => (hr r e).2), own_blk h3 hg (fun r e => (hr r e).2), h4, h5, h6.grown hg (by have := h6.size; omega) (fun k hk => by have := (hr k hk).1; omega)⟩
   case hIx =>
    rintro c pre X Y row ⟨hc, pre', x, err, h1, h2, h3, h4, h5, h6, h7⟩ hg hr
    exact ⟨hc, pre', x, err, h1, h2, h3, own_blk h4 hg (fun r e => (hr r e).2), own_blk h5 hg (fun r e => (hr r e).2), own_blk h6 hg (fun r e => (hr r e).2), h7.grown hg h7.size (fun k hk => by have := (hr k hk).1; omega)⟩
   case h0 => exact ⟨⟨_, g0, World.ownsRow_nil _ _ _ _⟩, g1, g2, by simp, by simp, hb3⟩
   case assign =>
    intro l x W K hK
    gi_wp2
    exact hK
   case body =>
    rintro l pre x W ⟨⟨v, hv, hrow⟩, h1, h2, hpos, hlen, hB⟩ hlt
    have hBW := hb2W.trans (hB.mono (by omega))
    obtain ⟨r1, r2, r3, r4⟩ := HB.out W hBW
    have hBw := hw0.trans (hBW.mono hw0.size)
    have hcv := hv.cell
    obtain ⟨a, c, rfl, hlr, hra⟩ := RowAt.of_own hrow
    clear hra hlr
    by_cases hx : x.2 < 0
    ·obtain ⟨x1, x2⟩ := x
     have m1 := r2.cell 0
     have f1 := r2.frozen 0
     have m2 : W.cell? ⟨w.heap.size + 1 + 1, 0, none⟩ = _ := r3.cell 0
     have f2 : W.frozen? ⟨w.heap.size + 1 + 1, 0, none⟩ = _ := r3.frozen 0
     have m3 : W.cell? ⟨w.heap.size + 1 + 1 + 1, 0, none⟩ = _ := r4.cell 0
     have f3 : W.frozen? ⟨w.heap.size + 1 + 1 + 1, 0, none⟩ = _ := r4.frozen 0
     gi_wp2
     obtain ⟨q1, q2, q3, q4⟩ := blk3' r2 r3 r4 (.slice none 0 0) (.int .i64 3) (.int .i64 (x1 : Int)) hBw (Nat.le_refl _)
     exact ⟨keeps3 _ _ _ _ _ _ _ _, rfl, pre, (x1, x2), 3, rfl, hpos, .inl ⟨hx, rfl, hlen⟩, q1, q2, q3, q4⟩
    ·obtain ⟨x1, x2⟩ := x
     have hx' : (0 : Int) ≤ x2 := by simpa using hx
     clear hx
     by_cases h24 : pre.length = 24
     ·have d24 : ((pre.length : Int) == 24) = true := by simp [h24]
      have H24 := Lib.hid h24
      have m1 := r2.cell 0
      have f1 := r2.frozen 0
      have m2 : W.cell? ⟨w.heap.size + 1 + 1, 0, none⟩ = _ := r3.cell 0
      have f2 : W.frozen? ⟨w.heap.size + 1 + 1, 0, none⟩ = _ := r3.frozen 0
      have m3 : W.cell? ⟨w.heap.size + 1 + 1 + 1, 0, none⟩ = _ := r4.cell 0
      have f3 : W.frozen? ⟨w.heap.size + 1 + 1 + 1, 0, none⟩ = _ := r4.frozen 0
      clear h24
      gi_wp2
      obtain ⟨q1, q2, q3, q4⟩ := blk3' r2 r3 r4 (.slice none 0 0) (.int .i64 2) (.int .i64 (x1 : Int)) hBw (Nat.le_refl _)
      exact ⟨keeps3 _ _ _ _ _ _ _ _, rfl, pre, (x1, x2), 2, rfl, hpos, .inr ⟨hx', rfl, H24.out⟩, q1, q2, q3, q4⟩
     ·have d24 : ((pre.length : Int) == 24) = false := by simp; omega
      have hl23 : pre.length < 24 := by omega
      have hsz : o ≤ W.heap.size := by have := hB.size; omega
      clear h24
      gi_wp2_with (gi_at_builtin; refine wpListIn_append_own _ rfl _ _ 85 rfl o 3 i0 (.int .i64 0) 1 8 Tryz.underlying85 hi hz0 hz1 hz2 rfl (by decide) _ _ _ rfl (hrow.alloc _) ⟨W.heap.size, 0, none⟩ 1 1 [.int .i64 x2] rfl rfl (cell_one_new _ _ _) (by simp [Value.oneCell']) (by unfold maxLen; omega) (by omega) (by simp; omega) ?_; intro v' w1 hown' hgrow _; obtain ⟨g', cap', rfl⟩ := ownsRow_succ hown'; obtain ⟨hv1, hv2, hr2, hk2, hb2'⟩ := hv.appended (by decide) hrow hsz (Nat.le_refl _) hown' hgrow; have hc1 := hv1.cell; have hf1 := hv1.frozen)
      have hb1' := blk_appended h1 hrow (by decide) hgrow (p := ⟨o, 0, none⟩) (by simp) (.slice (some ⟨g', 0, none⟩) (pre.length + 1) cap')
      have hb2'' := blk_appended h2 hrow (by decide) hgrow (p := ⟨o, 0, none⟩) (by show o + 1 + 1 ≠ o; omega) (.slice (some ⟨g', 0, none⟩) (pre.length + 1) cap')
      refine ⟨hk2.from _, ⟨?_, ?_, hb2'.block b hbo⟩, ⟨_, hv2, ?_⟩, hb1', hb2'', ?_, ?_, hB.trans hb2'⟩
      ·exact hb2''.trans h2.symm
      ·exact hb1'.trans h1.symm
      ·rw [List.map_append, nums_append]
       simpa [nums] using hr2
      ·intro y hy
       rcases List.mem_append.1 hy with h | h
       ·exact hpos y h
       ·simp at h; subst h; exact hx'
      ·simp; omega
   case done =>
    rintro D ys W hD rfl ⟨⟨v, hv, hrow⟩, h1, h2, hpos, hlen, hB⟩ hK
    have hBW := hb2W.trans (hB.mono (by omega))
    obtain ⟨r1, r2, r3, r4⟩ := HB.out W hBW
    have hBw := hw0.trans (hBW.mono hw0.size)
    have hcv := hv.cell
    obtain ⟨a, c, rfl, hlr, hra⟩ := RowAt.of_own hrow
    have m1 := r2.cell 0
    have f1 := r2.frozen 0
    have m2 : W.cell? ⟨w.heap.size + 1 + 1, 0, none⟩ = _ := r3.cell 0
    have f2 : W.frozen? ⟨w.heap.size + 1 + 1, 0, none⟩ = _ := r3.frozen 0
    have m3 : W.cell? ⟨w.heap.size + 1 + 1 + 1, 0, none⟩ = _ := r4.cell 0
    have f3 : W.frozen? ⟨w.heap.size + 1 + 1 + 1, 0, none⟩ = _ := r4.frozen 0
    gi_wp2
    clear hra hlr
    have HK := Lib.hid hK
    have Hpos := Lib.hid hpos
    clear hK hpos
    obtain ⟨ys, hys⟩ : ∃ ys, lseq A.bls (s.size + 1) (bl s) 0 = ys := ⟨_, rfl⟩
    rw [hys] at hcv hlen
    go_wp2_with fail
    have hR : readA A s = ⟨ys.map (·.2), 0, 0⟩ := by
     rw [readA, if_pos Hv.out, readL, if_neg Ht.out, lread_done A.bls (s.size + 1) 24 (bl s) 0 [] ys (fun l hl => (hlen3 l hl).1) (by rw [bl_length]; omega) hys (hys ▸ Hpos.out) hlen]
     rfl
    obtain ⟨q1, q2, q3, q4⟩ := blk3' r2 r3 r4 (.slice a ys.length c) (.int .i64 0) (.int .i64 0) hBw (Nat.le_refl _)
    have hK := (keeps3 W ⟨w.heap.size + 1, 0, none⟩ ⟨w.heap.size + 1 + 1, 0, none⟩ ⟨w.heap.size + 1 + 1 + 1, 0, none⟩ (.slice a ys.length c) (.int .i64 0) (.int .i64 0) 0).same D _ (Nat.zero_le _) HK.out rfl
    refine read_mark hR rfl rfl rfl (by omega) (Nat.le_refl _) hK q1 q2 q3 ?_ q4
    rw [hys] at hrow
    have := own_base (row3 hrow (p := ⟨w.heap.size + 1, 0, none⟩) (q := ⟨w.heap.size + 1 + 1, 0, none⟩) (r := ⟨w.heap.size + 1 + 1 + 1, 0, none⟩) (by show w.heap.size + 1 < o; omega) (by show w.heap.size + 1 + 1 < o; omega) (by show w.heap.size + 1 + 1 + 1 < o; omega) (.slice a ys.length c) (.int .i64 0) (.int .i64 0)) (base' := w.heap.size) (by omega)
    simpa using this
   case stop =>
    rintro D c pre W hD hpre ⟨rfl, pre', x, err, h1, h2, h3, h4, h5, h6, h7⟩ hK
    gi_wp2
    have hR : readA A s = ⟨[], err, x.1⟩ := by
     rw [readA, if_pos Hv.out, readL, if_neg Ht.out]
     obtain ⟨rest, hrest⟩ := hpre
     rw [h1, List.append_assoc] at hrest
     have hl1 : ∀ l ∈ A.bls, 1 ≤ l.length := fun l hl => (hlen3 l hl).1
     obtain ⟨x1, x2⟩ := x
     rcases h3 with ⟨hx, rfl, hl⟩ | ⟨hx, rfl, hl⟩
     ·have hx1 : x2 = -1 := by
       rcases lseq_mem A.bls (s.size + 1) (bl s) 0 (x1, x2) (by rw [← hrest]; simp) with h | h
       ·simp at hx h; omega
       ·exact h
      subst hx1
      exact lread_char A.bls (s.size + 1) 24 (bl s) 0 [] pre' rest x1 hl1 (by rw [bl_length]; omega) hrest.symm h2 hl
     ·exact lread_full A.bls (s.size + 1) 24 (bl s) 0 [] pre' rest (x1, x2) hl1 (by rw [bl_length]; omega) hrest.symm h2 hx hl
    refine read_mark hR rfl rfl rfl (by omega) (Nat.le_refl _) hK h4 h5 h6 (World.ownsRow_nil _ _ _ _) h7
 ·rw [decide_eq_false hv]
  have hK := Lib.hid (show readA A s = ⟨[], 1, 0⟩ by rw [readA, if_neg hv])
  clear hv
  go_wp2_with fail
  obtain ⟨q1, q2, q3, q4⟩ := blk3 (HB.out w1 hb1).2.1 (HB.out w1 hb1).2.2.1 (HB.out w1 hb1).2.2.2 (.slice none 0 0) (.int .i64 1) (.int .i64 0) hb1w (Nat.le_refl _)
  exact read_ret hK.out rfl rfl rfl rfl q1 q2 q3 q4

end Go.Proofs.YthachfkcgdfdfaaGreatDoor
/- W11b · W11c -/
/- Walks of the reference's rules (gazetteerref11), second part. -/
namespace Go.Proofs.YthachfkcgdfdfaaGreatDoor
open Go.RowKit Classical

def Rul.ok (r : Rul) : Prop := Plain11 r.src 1 9 ∧ Plain11 r.dst 0 9 ∧ Plain11 r.nxt 0 30 ∧ ¬ (r.fin = true ∧ bl r.nxt ≠ [])
def Formed11 (R : Ruls) : Prop :=
 nameB (bl R.src) = true ∧ nameB (bl R.dst) = true ∧ 1 ≤ R.list.length ∧ R.list.length ≤ 80 ∧ (∀ r ∈ R.list, r.ok) ∧ R.list.Nodup

end Go.Proofs.YthachfkcgdfdfaaGreatDoor

/- Walk of the reference's 'Valid' on rules (gazetteerref11). -/
namespace Go.Proofs.YthachfkcgdfdfaaGreatDoor
open Go.RowKit Classical

def Rul.lettered (A B : Alph) (r : Rul) : Prop := LettersOk A.bls (bl r.src) 3 ∧ LettersOk B.bls (bl r.dst) 3 ∧ LettersOk A.bls (bl r.nxt) 10
def Valid11 (R : Ruls) (A B : Alph) : Prop :=
 Formed11 R ∧ Valid10 A ∧ Valid10 B ∧ R.src = A.name ∧ R.dst = B.name ∧ ∀ r ∈ R.list, r.lettered A B

theorem bytes_ne {a b : ByteArray} : (!a.toList == b.toList) = true ↔ a ≠ b := by
 rw [ByteArray.toList_eq, ByteArray.toList_eq, Bool.not_eq_true', beq_eq_false_iff_ne]
 exact ⟨fun h e => h (by rw [e]), fun h e => h (bl_inj e)⟩

end Go.Proofs.YthachfkcgdfdfaaGreatDoor
