/- Walk: slices.Compact at arcs. -/
import Derived.Test.YtfihjpffjdnahaaGreatDoorGX
import Derived.Test.YtfihjpffjdnahaaGreatDoorGT
import Derived.BigQuiet
import Derived.Deep.QuietTactic
import Derived.Laws.IdiomCopy
import Derived.Lib.SlicesCompact
import Derived.Lib.SliceRun
namespace Go.Proofs.YtfihjpffjdnahaaGreatDoor
open Go.RowKit Go.Lib Classical

instance : Inhabited Arc := ⟨⟨0, 0, 0, 0⟩⟩
theorem flat_at (l : List Arc) (t : Nat) (h : t < l.length * 4) : (flat l)[t]? = some ((l.toArray[t / 4]!).cells[t % 4]!) := by
 induction l generalizing t with
 | nil => simp at h
 | cons a l ih =>
  rw [flat_cons]
  rcases t with _ | _ | _ | _ | t
  ·rfl
  ·rfl
  ·rfl
  ·rfl
  ·have h1 : (t + 1 + 1 + 1 + 1) / 4 = t / 4 + 1 := by omega
   have h2 : (t + 1 + 1 + 1 + 1) % 4 = t % 4 := by omega
   have := ih t (by simp at h; omega)
   rw [h1, h2]
   simpa using this
/-- Arcs in order, each once. -/
theorem arr_get (S : List Arc) (m : Nat) (h : m < S.length) : S.toArray[m]! = S[m] := by rw [getElem!_pos _ _ (by simpa using h)]; simp
theorem compact_mem {S : List Arc} (x : Arc) : x ∈ compact S ↔ x ∈ S := by
 have key : ∀ m, m ≤ S.length → (x ∈ compactUpTo S.toArray m ↔ x ∈ S.take m) := by
  intro m
  induction m with
  | zero => intro _; simp [compactUpTo]
  | succ m ih =>
   intro hm
   have hg := arr_get S m (by omega)
   rw [compactUpTo_succ, List.mem_append, ih (by omega), mem_take_succ S m (by omega)]
   by_cases hk : keeps S.toArray m = true
   ·rw [if_pos hk, List.mem_singleton, hg]
   ·rw [if_neg hk]
    simp only [keeps, decide_eq_true_eq, not_or, Classical.not_not] at hk
    obtain ⟨h0, h1⟩ := hk
    rw [hg, arr_get S (m - 1) (by omega)] at h1
    constructor
    ·rintro (h | h)
     ·exact .inl h
     ·simp at h
    ·rintro (h | h)
     ·exact .inl h
     ·refine .inl ?_
      rw [h, h1]
      exact List.mem_take_iff_getElem.2 ⟨m - 1, by omega, rfl⟩
 unfold compact
 rw [key S.length (Nat.le_refl _), List.take_length]
theorem compact_inc {S : List Arc} (h : S.Pairwise (fun a b => ¬ b.lt a)) : Increasing (compact S) := by
 have hp := List.pairwise_iff_getElem.1 h
 have key : ∀ m, m ≤ S.length → Increasing (compactUpTo S.toArray m) ∧ ∀ y ∈ compactUpTo S.toArray m, ∃ j, ∃ hj : j < S.length, j < m ∧ y = S[j] := by
  intro m
  induction m with
  | zero => intro _; exact ⟨by simp [compactUpTo, Increasing], by simp [compactUpTo]⟩
  | succ m ih =>
   intro hm
   obtain ⟨h1, h2⟩ := ih (by omega)
   have hg := arr_get S m (by omega)
   rw [compactUpTo_succ]
   by_cases hk : keeps S.toArray m = true
   ·rw [if_pos hk]
    refine ⟨List.pairwise_append.2 ⟨h1, by simp, fun y hy z hz => ?_⟩, fun y hy => ?_⟩
    ·obtain rfl : z = S[m] := by rw [← hg]; simpa using hz
     obtain ⟨j, hj, hjm, rfl⟩ := h2 y hy
     simp only [keeps, decide_eq_true_eq] at hk
     have hk' : S.toArray[m]! ≠ S.toArray[m - 1]! := hk.resolve_left (by omega)
     rw [hg, arr_get S (m - 1) (by omega)] at hk'
     have h3 := hp (m - 1) m (by omega) (by omega) (by omega)
     have h4 : (S[m - 1]'(by omega)).lt S[m] := by
      by_cases h5 : (S[m - 1]'(by omega)).lt S[m]
      ·exact h5
      ·exact absurd (Arc.eq_of_not_lt h3 h5) hk'
     rcases Nat.lt_or_ge j (m - 1) with h6 | h6
     ·have h7 := hp j (m - 1) hj (by omega) h6
      unfold Arc.lt at *; omega
     ·obtain rfl : j = m - 1 := by omega
      exact h4
    ·rcases List.mem_append.1 hy with hy | hy
     ·obtain ⟨j, hj, h3, h4⟩ := h2 y hy
      exact ⟨j, hj, by omega, h4⟩
     ·obtain rfl : y = S[m] := by rw [← hg]; simpa using hy
      exact ⟨m, by omega, by omega, rfl⟩
   ·rw [if_neg hk, List.append_nil]
    exact ⟨h1, fun y hy => by obtain ⟨j, hj, h3, h4⟩ := h2 y hy; exact ⟨j, hj, by omega, h4⟩⟩
 exact (key S.length (Nat.le_refl _)).1
theorem zeroCells_arcs (n : Nat) : (Builtin.zeroCells #[.int .i64 0, .int .i64 0, .int .i64 0, .int .i64 0] n).toList = flat (List.replicate n ⟨0, 0, 0, 0⟩) := by
 refine List.ext_getElem (by simp [Builtin.zeroCells, flat_length]) (fun i h1 h2 => ?_)
 have hi : i < n * 4 := by simpa [flat_length] using h2
 have := flat_at (List.replicate n ⟨0, 0, 0, 0⟩) i (by simpa using hi)
 rw [List.getElem?_eq_getElem h2] at this
 injection this with this
 have h4 : i / 4 < n := by omega
 have hz : (List.replicate n (⟨0, 0, 0, 0⟩ : Arc)).toArray[i / 4]! = ⟨0, 0, 0, 0⟩ := by rw [getElem!_pos _ _ (by simpa using h4)]; simp
 rw [this, hz]
 rcases (show i % 4 = 0 ∨ i % 4 = 1 ∨ i % 4 = 2 ∨ i % 4 = 3 by omega) with e | e | e | e <;> simp [Builtin.zeroCells, e, Arc.cells]
/-- 'clear(s)' of a row of arcs. -/
theorem run_clear_arcs (w : World) (ty : TypeId) (b o n c : Nat)
  (hc : ∀ j, j < n * 4 → (w.cell? ⟨b, o + j, none⟩).isSome = true) (hf : ∀ j, j < n * 4 → w.frozen? ⟨b, o + j, none⟩ = false) :
  (Builtin.clear_ #[23] ty #[.slice (some ⟨b, o, none⟩) n c]).run Tryz.prog w = .ok (.tuple #[]) (w.setCells b o (flat (List.replicate n ⟨0, 0, 0, 0⟩))) := by
 have hv : ∀ w, (zeroValue 40).run Tryz.prog w = .ok (.agg #[.int .i64 0, .int .i64 0, .int .i64 0, .int .i64 0]) w := fun w => by kernel_rfl
 have hst := run_storeCells_cells (P := Tryz.prog) b o (flat (List.replicate n ⟨0, 0, 0, 0⟩)) 0 w (by simpa [flat_length] using hc) (by simpa [flat_length] using hf) (by
  intro v hv'
  unfold flat at hv'
  obtain ⟨a, _, ha⟩ := List.mem_flatMap.1 hv'
  simp [Arc.cells] at ha
  rcases ha with rfl | rfl | rfl | rfl <;> rfl)
 simp only [Nat.add_zero] at hst
 cases n with
 | zero => simp [Builtin.clear_, run_underlying Tryz.underlying23, flat, World.setCells]
 | succ m => simp [Builtin.clear_, run_underlying Tryz.underlying23, hv, zeroCells_arcs, Value.cells, hst]

theorem row_take {w : World} {base g c n : Nat} {L R : List Arc} (h : w.ownsRow base 40 4 (.slice (some ⟨g, 0, none⟩) n c) n (flat (L ++ R))) : RowAt w w.heap.size (some ⟨g, 0, none⟩) (flat L) := fun _ =>
 ⟨g, 0, rfl, (h.lt g rfl).2, fun i x hx => by
  have hi := (List.getElem?_eq_some_iff.1 hx).1
  have h1 := h.1
  rw [flat_append, List.length_append] at h1
  rw [Nat.zero_add, h.cellAt _ (by omega), flat_append, List.getElem?_append_left hi, hx]⟩

theorem size_setCells' (b : Nat) : ∀ (vs : List Value) (o : Nat) (w : World), (w.setCells b o vs).heap.size = w.heap.size
 | [], _, _ => rfl
 | v :: vs, o, w => by
  show ((w.setCell ⟨b, o, none⟩ v).setCells b (o + 1) vs).heap.size = _
  rw [size_setCells' b vs]
  simp [World.setCell]
theorem chg_setCells (b : Nat) : ∀ (vs : List Value) (o : Nat) (w : World), Chg (· = b) w (w.setCells b o vs)
 | [], _, _ => Chg.refl _ _
 | v :: vs, o, w => (Chg.setCell (S := (· = b)) (p := ⟨b, o, none⟩) _ (.inl rfl) _).trans (chg_setCells b vs (o + 1) (w.setCell ⟨b, o, none⟩ v))

set_option maxRecDepth 100000 in
set_option maxHeartbeats 4000000 in
theorem Compact_arcs (S : List Arc) (g c base : Nat) (w : World) (hle : S.length ≤ 1000000000000000) (hown : w.ownsRow base 40 4 (.slice (some ⟨g, 0, none⟩) S.length c) S.length (flat S)) :
  Calls Tryz.prog 46 #[.slice (some ⟨g, 0, none⟩) S.length c] w fun e w' => e = .returned (.slice (some ⟨g, 0, none⟩) (compact S).length c) ∧ RowAt w' w'.heap.size (some ⟨g, 0, none⟩) (flat (compact S)) ∧ Chg (· = g) w w' := by
 have hcap : S.length ≤ c := by
  rcases hown.2 with ⟨e, _⟩ | ⟨g', cap, cur, e, _, _, hn, _⟩
  ·cases e
  ·injection e with _ _ e; subst e; exact hn
 have Hown := Lib.hid hown
 have same : (∀ j, j < S.length → keeps S.toArray j = true) → compact S = S := compact_all S
 have HS := Lib.hid same
 clear hown same
 by_cases h2 : S.length < 2
 ·go_enter Tryz.func46, Tryz.ntmps46
  go_wp2
  go_ret
  have e := HS.out (fun j hj => keeps_lt_one _ j (by omega))
  rw [e]
  exact ⟨rfl, row_take (R := []) (by rw [List.append_nil]; exact Hown.out), Chg.refl _ _⟩
 ·go_enter Tryz.func46, Tryz.ntmps46
  go_wp2_with fail
  go_loopw [3] (fun s3 wr => ∃ k : Nat, 1 ≤ k ∧ k ≤ S.length ∧ s3 = .int .i64 k ∧ wr.ownsRow base 40 4 (.slice (some ⟨g, 0, none⟩) S.length c) S.length (flat S) ∧ Below w.heap.size w wr ∧ ∀ j, j < k → keeps S.toArray j = true) (fun s3 _ => S.length - (intOf s3).toNat)
  case atStart => exact ⟨1, Nat.le_refl _, by omega, rfl, Hown.out, Below.refl _ _, keeps_lt_one _⟩
  case round =>
   obtain ⟨k, hk1, hk, rfl, hor, hbr, hall⟩ := hrel
   have HR := Lib.hid (And.intro hor (And.intro hbr hall))
   clear hor hbr hall
   obtain ⟨p, rfl⟩ : ∃ p, k = p + 1 := ⟨k - 1, by omega⟩
   by_cases hlt : p + 1 < S.length
   ·obtain ⟨y0, y1, y2, y3⟩ := own_arc_cells HR.out.1 p _ (List.getElem?_eq_getElem (by omega))
    obtain ⟨z0, z1, z2, z3⟩ := own_arc_cells HR.out.1 (p + 1) _ (List.getElem?_eq_getElem hlt)
    have hq := eql_arc S[p + 1] S[p]
    have hgd := guard_arc
    have hwp : IntKind.i64.wrap (p : Int) = p := IntWalk.i64_in _ (by omega)
    go_wp2_with fail
    go_quiet (fail)
    clear hwp y0 y1 y2 y3 z0 z1 z2 z3 hq hgd
    by_cases hdup : S[p + 1] = S[p]
    ·have d1 : decide (S[p + 1] = S[p]) = true := decide_eq_true hdup
     rw [d1]
     have HD := Lib.hid hdup
     clear hdup d1
     go_wp2_with fail
     go_loopw [3, 5] (fun s3 s5 wx => ∃ (kk k2 : Nat) (dk : Array Arc), s3 = .int .i64 kk ∧ s5 = .int .i64 k2 ∧ 1 ≤ k2 ∧ p + 1 + k2 ≤ S.length ∧ wx.ownsRow base 40 4 (.slice (some ⟨g, 0, none⟩) S.length c) S.length (flat dk.toList) ∧ Chg (· = g) w wx ∧ CompInv S.toArray (p + 1 + k2) kk dk) (fun _ s5 _ => S.length - (intOf s5).toNat)
     case atStart => exact ⟨p + 1, 1, S.toArray, rfl, rfl, Nat.le_refl _, by omega, HR.out.1, (Chg.of_below _ HR.out.2.1).trans (Chg.drewN _ _ _), CompInv.start HR.out.2.2 (keeps_neg (by omega) (by rw [arr_get S _ hlt, Nat.add_sub_cancel, arr_get S p (by omega)]; exact HD.out))⟩
     case round =>
      obtain ⟨kk, k2, dk, rfl, rfl, h1, hle2, hox, hcx, hI⟩ := hrel
      have hkk := hI.lt
      have hds : dk.size = S.length := by rw [hI.size]; simp
      have HX := Lib.hid (And.intro hox (And.intro hcx hI))
      clear hox hcx hI
      by_cases hlt2 : p + 1 + k2 < S.length
      ·have hj1 : dk.toList[p + 1 + k2]? = some S[p + 1 + k2] := by
        have := HX.out.2.2.high (p + 1 + k2) (by omega)
        rw [arr_get S _ hlt2, getElem!_pos dk _ (by omega)] at this
        rw [Array.getElem?_toList, Array.getElem?_eq_getElem (by omega), this]
       have hj0 : dk.toList[p + k2]? = some S[p + k2] := by
        have := HX.out.2.2.high (p + k2) (by omega)
        rw [arr_get S _ (by omega), getElem!_pos dk _ (by omega)] at this
        rw [Array.getElem?_toList, Array.getElem?_eq_getElem (by omega), this]
       obtain ⟨y0, y1, y2, y3⟩ := own_arc_cells HX.out.1 (p + k2) _ hj0
       obtain ⟨z0, z1, z2, z3⟩ := own_arc_cells HX.out.1 (p + 1 + k2) _ hj1
       have hq := neq_arc S[p + 1 + k2] S[p + k2]
       have hgd := guard_arc
       clear hj0 hj1
       obtain ⟨m, rfl⟩ : ∃ m, k2 = m + 1 := ⟨k2 - 1, by omega⟩
       rw [show (p + (m + 1)) * 4 = (p + 1) * 4 + m * 4 from by omega] at y0 y1 y2 y3
       rw [show (p + 1 + (m + 1)) * 4 = (p + 1) * 4 + (m + 1) * 4 from by omega] at z0 z1 z2 z3
       have hwp : IntKind.i64.wrap (m : Int) = m := IntWalk.i64_in _ (by omega)
       go_wp2_with fail
       go_quiet (fail)
       clear hwp hq hgd
       by_cases huv : S[p + 1 + (m + 1)] = S[p + (m + 1)]
       ·have d1 : (!decide (S[p + 1 + (m + 1)] = S[p + (m + 1)])) = false := by rw [decide_eq_true huv]; rfl
        rw [d1]
        have HU := Lib.hid huv
        clear huv d1
        go_wp2_with fail
        refine ⟨⟨kk, m + 2, dk, rfl, by go_num, by omega, by omega, HX.out.1, HX.out.2.1.trans (Chg.drewN _ _ _), ?_⟩, by simp [intOf]; omega⟩
        exact HX.out.2.2.skip (keeps_neg (by omega) (by rw [show p + 1 + (m + 1) - 1 = p + (m + 1) from by omega, arr_get S _ hlt2, arr_get S _ (by omega)]; exact HU.out))
       ·have d1 : (!decide (S[p + 1 + (m + 1)] = S[p + (m + 1)])) = true := by rw [decide_eq_false huv]; rfl
        rw [d1]
        have HU := Lib.hid huv
        clear huv d1
        obtain ⟨x0, x1, x2, x3⟩ := own_arc_cells HX.out.1 kk (dk[kk]'(by omega)) (by rw [Array.getElem?_toList, Array.getElem?_eq_getElem])
        have f0 := HX.out.1.frozenAt (kk * 4)
        have f1 := HX.out.1.frozenAt (kk * 4 + 1)
        have f2 := HX.out.1.frozenAt (kk * 4 + 2)
        have f3 := HX.out.1.frozenAt (kk * 4 + 3)
        go_wp2_with fail
        refine ⟨⟨kk + 1, m + 2, dk.setIfInBounds kk S[p + 1 + (m + 1)], by go_num, by go_num, by omega, by omega, ?_, ?_, ?_⟩, by simp [intOf]; omega⟩
        ·have := own_set_arc HX.out.1 kk S[p + 1 + (m + 1)] (by rw [Array.length_toList]; omega)
         rw [Array.toList_setIfInBounds]
         exact this
        ·exact (HX.out.2.1.trans (Chg.drewN _ _ _)).trans ((((Chg.setCell (S := (· = g)) (p := ⟨g, kk * 4, none⟩) _ (.inl rfl) _).trans (Chg.setCell (S := (· = g)) (p := ⟨g, kk * 4 + 1, none⟩) _ (.inl rfl) _)).trans (Chg.setCell (S := (· = g)) (p := ⟨g, kk * 4 + 2, none⟩) _ (.inl rfl) _)).trans (Chg.setCell (S := (· = g)) (p := ⟨g, kk * 4 + 3, none⟩) _ (.inl rfl) _))
        ·have := HX.out.2.2.keep (by simp; omega) (keeps_pos (by rw [show p + 1 + (m + 1) - 1 = p + (m + 1) from by omega, arr_get S _ hlt2, arr_get S _ (by omega)]; exact HU.out))
         rw [arr_get S _ hlt2] at this
         exact this
      ·have hend : p + 1 + k2 = S.length := by omega
       have hcl : ∀ ty, (Builtin.clear_ #[23] ty #[.slice (some ⟨g, kk * 4, none⟩) (S.length - kk) (c - kk)]).run Tryz.prog wr = .ok (.tuple #[]) (wr.setCells g (kk * 4) (flat (List.replicate (S.length - kk) ⟨0, 0, 0, 0⟩))) := fun ty => run_clear_arcs wr ty g (kk * 4) _ _ (fun j hj => by
        rw [HX.out.1.cellAt _ (by omega), List.getElem?_eq_getElem (by rw [flat_length, Array.length_toList]; omega)]; rfl) (fun j hj => HX.out.1.frozenAt _)
       have HE := Lib.hid hend
       clear hend
       go_wp2_with fail
       go_ret
       have hI := HX.out.2.2
       rw [HE.out] at hI
       have hlk : (compact S).length = kk := by unfold compact; simpa using hI.len
       have hsplit : dk.toList = compact S ++ dk.toList.drop kk := by
        conv => lhs; rw [← List.take_append_drop kk dk.toList]
        congr 1
        refine list_ext_to (by rw [List.length_take, Array.length_toList, hlk]; omega) (fun j hj => ?_)
        rw [List.length_take, Array.length_toList] at hj
        have h3 := hI.low j (by omega)
        have h4 : (compact S)[j]? = some dk[j]! := by unfold compact; simpa using h3
        rw [h4, List.getElem?_take, if_pos (by omega), Array.getElem?_toList, Array.getElem?_eq_getElem (by omega), getElem!_pos dk j (by omega)]
       have hro := row_take (w := wr) (L := compact S) (R := dk.toList.drop kk) (by rw [← hsplit]; exact HX.out.1)
       rw [hlk]
       refine ⟨rfl, fun h0 => ?_, HX.out.2.1.trans (chg_setCells _ _ _ _)⟩
       obtain ⟨b, off, e, hb, hx⟩ := hro h0
       injection e with e
       injection e with e1 e2
       subst e1 e2
       refine ⟨g, 0, rfl, by rw [size_setCells']; exact hb, fun i x hi => ?_⟩
       have hil := (List.getElem?_eq_some_iff.1 hi).1
       rw [flat_length, hlk] at hil
       rw [World.cell?_setCells_out g _ _ _ _ (fun _ _ => .inl (by show 0 + i < kk * 4; omega))]
       exact hx i x hi
    ·have d1 : decide (S[p + 1] = S[p]) = false := decide_eq_false hdup
     rw [d1]
     have HD := Lib.hid hdup
     clear hdup d1
     go_wp2_with fail
     refine ⟨⟨p + 2, by omega, by omega, by go_num, HR.out.1, HR.out.2.1.trans (below_drewN (Below.refl _ _) _), fun j hj => ?_⟩, by simp [intOf]; omega⟩
     by_cases e : j = p + 1
     ·subst e
      exact keeps_pos (by rw [arr_get S _ hlt, Nat.add_sub_cancel, arr_get S p (by omega)]; exact HD.out)
     ·exact HR.out.2.2 j (by omega)
   ·have hall := HR.out.2.2
    have e : p + 1 = S.length := by omega
    have HE := Lib.hid e
    have HC := Lib.hid (HS.out (fun j hj => hall j (by omega)))
    clear hall e
    go_wp2
    go_ret
    rw [HC.out]
    exact ⟨rfl, row_take (R := []) (by rw [List.append_nil]; exact HR.out.1), Chg.of_below _ HR.out.2.1⟩
end Go.Proofs.YtfihjpffjdnahaaGreatDoor
