/- E0 · E1 · E2 · E3 · E4 -/
import Derived.Test.YtfihjpffjdnahaaGreatDoorPB
import Derived.Test.YtfihjpffjdnahaaGreatDoorK9
import Derived.Test.YtfihjpffjdnahaaGreatDoorT3
/- Boxes of machines, for the laws of layer 14. -/
namespace Go.Proofs.YtfihjpffjdnahaaGreatDoor
open Go.RowKit Classical

/-- A variable that holds a machine. -/
def MB (w : World) (b : Nat) (M : Mach) : Prop := ∃ fa fc aa ac, Blk w b #[.int .i64 M.states, .int .i64 M.start, .slice fa M.final.length fc, .slice aa M.arcs.length ac] 25 ∧
 MachAt w w.heap.size (.agg #[.int .i64 M.states, .int .i64 M.start, .slice fa M.final.length fc, .slice aa M.arcs.length ac]) M
theorem MB.below {w w' : World} {b : Nat} {M : Mach} (h : MB w b M) (hb : Below w.heap.size w w') : MB w' b M := by
 obtain ⟨fa, fc, aa, ac, h1, h2⟩ := h
 exact ⟨fa, fc, aa, ac, h1.below hb h1.lt, (h2.below hb (Nat.le_refl _)).more hb.size⟩
theorem MB.lt {w : World} {b : Nat} {M : Mach} (h : MB w b M) : b < w.heap.size := by
 obtain ⟨fa, fc, aa, ac, h1, h2⟩ := h
 exact h1.lt
theorem MB.new {w : World} {M : Mach} {fa aa : Option Addr} {fc ac : Nat} (h : MachAt w w.heap.size (.agg #[.int .i64 M.states, .int .i64 M.start, .slice fa M.final.length fc, .slice aa M.arcs.length ac]) M) :
  MB (w.alloc (.cells #[.int .i64 M.states, .int .i64 M.start, .slice fa M.final.length fc, .slice aa M.arcs.length ac] 25)) w.heap.size M := by
 have hb : Below w.heap.size w (w.alloc (.cells #[.int .i64 M.states, .int .i64 M.start, .slice fa M.final.length fc, .slice aa M.arcs.length ac] 25)) := (Below.refl _ _).alloc (Nat.le_refl _) _
 exact ⟨fa, fc, aa, ac, Blk.new _ _ _, (h.below hb (Nat.le_refl _)).more hb.size⟩
/-- Machines of at most 8 states and 14 arcs. -/
def FewM (M : Mach) : Prop := (M.states ≤ 8 ∨ 4000 < M.states) ∧ M.arcs.length ≤ 14 ∧ M.final.length ≤ 9
theorem FewM.states {M : Mach} (h : FewM M) (hv : ValidM M) : M.states ≤ 8 := by
 have := hv.most
 rcases h.1 with h | h <;> omega
end Go.Proofs.YtfihjpffjdnahaaGreatDoor

/- Walk: gazetteerref12.Few at 8 and 14. -/
namespace Go.Proofs.YtfihjpffjdnahaaGreatDoor
open Go.RowKit Classical
attribute [local go_sem] undef_bool undef_bool'

set_option maxRecDepth 100000 in
set_option maxHeartbeats 2000000 in
theorem Few12_any (M : Mach) (v : Value) (w : World) (h : MachAt w w.heap.size v M) :
  Calls Tryz.prog 18 #[v, .int .i64 8, .int .i64 14] w fun e w' => e = .returned (.bool (decide (FewM M))) ∧ Below w.heap.size w w' := by
 obtain ⟨fa, fc, aa, ac, rfl, hfl, hal, -, -⟩ := h
 unfold maxLen at hfl hal
 obtain ⟨W, hW⟩ : ∃ W : World, W = w.alloc (.cells #[.int .i64 M.states, .int .i64 M.start, .slice fa M.final.length fc, .slice aa M.arcs.length ac] 25) := ⟨_, rfl⟩
 have hb : Below w.heap.size w W := by rw [hW]; exact (Below.refl _ _).alloc (Nat.le_refl _) _
 have hB : Blk W w.heap.size #[.int .i64 M.states, .int .i64 M.start, .slice fa M.final.length fc, .slice aa M.arcs.length ac] 25 := by rw [hW]; exact Blk.new _ _ _
 have m0 : W.cell? ⟨w.heap.size, 0, none⟩ = some (.int .i64 M.states) := hB.cell 0
 have m2 : W.cell? ⟨w.heap.size, 2, none⟩ = some (.slice fa M.final.length fc) := hB.cell 2
 have m3 : W.cell? ⟨w.heap.size, 3, none⟩ = some (.slice aa M.arcs.length ac) := hB.cell 3
 have hwrap : IntKind.i64.wrap (8 + 1) = 9 := by decide
 have HW := Lib.hid hW
 have Hb := Lib.hid hb
 clear hW hb hB
 go_enter Tryz.func18, Tryz.ntmps18
 go_upto_region 1 with (fail)
 rw [← HW.out]
 clear HW
 have hno : ¬ FewM M → (Ending.returned (Value.bool false) = Ending.returned (.bool (decide (FewM M)))) := fun hn => by rw [decide_eq_false hn]
 have Hno := Lib.hid hno
 clear hno
 by_cases h1 : M.states ≤ 8
 ·have d1 : decide (M.states ≤ 8) = true := decide_eq_true h1
  by_cases h3 : M.arcs.length ≤ 14
  ·have d3 : decide ((M.arcs.length : Int) ≤ 14) = true := decide_eq_true (by omega)
   by_cases h4 : M.final.length ≤ 9
   ·have d4 : decide ((M.final.length : Int) ≤ 9) = true := decide_eq_true (by omega)
    have Hf := Lib.hid (decide_eq_true (show FewM M from ⟨.inl h1, h3, h4⟩))
    go_wp2_with fail
    go_ret
    exact ⟨by rw [Hf.out]; simp, Hb.out⟩
   ·have d4 : decide ((M.final.length : Int) ≤ 9) = false := decide_eq_false (by omega)
    have Hf := Lib.hid (show ¬ FewM M from fun h => h4 h.2.2)
    go_wp2_with fail
    go_ret
    exact ⟨Hno.out Hf.out, Hb.out⟩
  ·have d3 : decide ((M.arcs.length : Int) ≤ 14) = false := decide_eq_false (by omega)
   have Hf := Lib.hid (show ¬ FewM M from fun h => h3 h.2.1)
   go_wp2_with fail
   go_ret
   exact ⟨Hno.out Hf.out, Hb.out⟩
 ·have d1 : decide (M.states ≤ 8) = false := decide_eq_false h1
  by_cases h2 : 4000 < M.states
  ·have d2 : decide (4000 < M.states) = true := decide_eq_true h2
   by_cases h3 : M.arcs.length ≤ 14
   ·have d3 : decide ((M.arcs.length : Int) ≤ 14) = true := decide_eq_true (by omega)
    by_cases h4 : M.final.length ≤ 9
    ·have d4 : decide ((M.final.length : Int) ≤ 9) = true := decide_eq_true (by omega)
     have Hf := Lib.hid (decide_eq_true (show FewM M from ⟨.inr h2, h3, h4⟩))
     go_wp2_with fail
     go_ret
     exact ⟨by rw [Hf.out]; simp, Hb.out⟩
    ·have d4 : decide ((M.final.length : Int) ≤ 9) = false := decide_eq_false (by omega)
     have Hf := Lib.hid (show ¬ FewM M from fun h => h4 h.2.2)
     go_wp2_with fail
     go_ret
     exact ⟨Hno.out Hf.out, Hb.out⟩
   ·have d3 : decide ((M.arcs.length : Int) ≤ 14) = false := decide_eq_false (by omega)
    have Hf := Lib.hid (show ¬ FewM M from fun h => h3 h.2.1)
    go_wp2_with fail
    go_ret
    exact ⟨Hno.out Hf.out, Hb.out⟩
  ·have d2 : decide (4000 < M.states) = false := decide_eq_false h2
   have Hf := Lib.hid (show ¬ FewM M from fun h => by rcases h.1 with q | q <;> omega)
   go_wp2_with fail
   go_ret
   exact ⟨Hno.out Hf.out, Hb.out⟩
end Go.Proofs.YtfihjpffjdnahaaGreatDoor

/- Walk: gazetteerlaw14.few. -/
namespace Go.Proofs.YtfihjpffjdnahaaGreatDoor
open Go.RowKit Classical

/-- A row of machines, in the order of a list. -/
def MRow (w : World) (b off : Nat) (Ms : List Mach) : Prop :=
 ∀ (k : Nat) (h : k < Ms.length), ∃ fa fc aa ac, w.cell? ⟨b, off + k * 4, none⟩ = some (.int .i64 Ms[k].states) ∧ w.cell? ⟨b, off + k * 4 + 1, none⟩ = some (.int .i64 Ms[k].start) ∧ w.cell? ⟨b, off + k * 4 + 2, none⟩ = some (.slice fa Ms[k].final.length fc) ∧ w.cell? ⟨b, off + k * 4 + 3, none⟩ = some (.slice aa Ms[k].arcs.length ac) ∧
  MachAt w w.heap.size (.agg #[.int .i64 Ms[k].states, .int .i64 Ms[k].start, .slice fa Ms[k].final.length fc, .slice aa Ms[k].arcs.length ac]) Ms[k]
theorem MRow.below {w w' : World} {b off : Nat} {Ms : List Mach} (h : MRow w b off Ms) (hb : Below w.heap.size w w') (hlt : b < w.heap.size) : MRow w' b off Ms := fun k hk => by
 obtain ⟨fa, fc, aa, ac, h0, h1, h2, h3, h4⟩ := h k hk
 exact ⟨fa, fc, aa, ac, (hb.cell hlt).trans h0, (hb.cell hlt).trans h1, (hb.cell hlt).trans h2, (hb.cell hlt).trans h3, (h4.below hb (Nat.le_refl _)).more hb.size⟩

set_option maxRecDepth 100000 in
set_option maxHeartbeats 2000000 in
theorem few14_any (Ms : List Mach) (b off c : Nat) (w : World) (hl : Ms.length ≤ 4) (hlt : b < w.heap.size) (h : MRow w b off Ms) :
  Calls Tryz.prog 5 #[.slice (some ⟨b, off, none⟩) Ms.length c] w fun e w' => e = .returned (.bool (decide (∀ M ∈ Ms, FewM M))) ∧ Below w.heap.size w w' := by
 have H := Lib.hid h
 clear h
 go_enter Tryz.func5, Tryz.ntmps5
 go_wp2_with fail
 go_loopw [3] (fun s3 wx => ∃ k : Nat, k ≤ Ms.length ∧ s3 = .int .i64 k ∧ (∀ M ∈ Ms.take k, FewM M) ∧ Below w.heap.size w wx) (fun s3 _ => Ms.length - (intOf s3).toNat)
 case atStart => exact ⟨0, Nat.zero_le _, rfl, by simp, Below.refl _ _⟩
 case round =>
  obtain ⟨k, hk, rfl, hf, hb⟩ := hrel
  by_cases hkl : k < Ms.length
  ·obtain ⟨fa, fc, aa, ac, h0, h1, h2, h3, h4⟩ := (H.out.below hb hlt) k hkl
   have htk : Ms.take (k + 1) = Ms.take k ++ [Ms[k]] := by rw [List.take_add_one, List.getElem?_eq_getElem hkl]; rfl
   have hmem : Ms[k] ∈ Ms := List.getElem_mem hkl
   obtain ⟨M, hM⟩ : ∃ M, Ms[k] = M := ⟨_, rfl⟩
   rw [hM] at h0 h1 h2 h3 h4 htk hmem
   have HK := Lib.hid (And.intro hf (And.intro hb (And.intro h4 (And.intro htk hmem))))
   have hsz := hb.size
   clear hf hb h4 htk hmem hM
   go_wp2_with fail
   refine (Few12_any M _ wr HK.out.2.2.1).mono ?_
   rintro e w1 ⟨rfl, hb1⟩
   clear h0 h1 h2 h3
   have Hb1 := Lib.hid (HK.out.2.1.trans (hb1.mono hsz))
   clear hb1
   by_cases hfm : FewM M
   ·rw [decide_eq_true hfm]
    have Hf := Lib.hid hfm
    clear hfm
    go_wp2_with fail
    exact ⟨⟨k + 1, by omega, by go_num, fun N hN => by
     rw [HK.out.2.2.2.1] at hN
     rcases List.mem_append.1 hN with hN | hN
     ·exact HK.out.1 N hN
     ·rw [List.mem_singleton.1 hN]; exact Hf.out, Hb1.out⟩, by simp [intOf]; omega⟩
   ·rw [decide_eq_false hfm]
    have Hf := Lib.hid (decide_eq_false (show ¬ ∀ M ∈ Ms, FewM M from fun h => hfm (h M HK.out.2.2.2.2)))
    clear hfm
    go_wp2_with fail
    go_ret
    exact ⟨by rw [Hf.out]; simp, Hb1.out⟩
  ·obtain rfl : k = Ms.length := by omega
   have Hf := Lib.hid (decide_eq_true (show ∀ M ∈ Ms, FewM M from fun M hM => hf M (by rw [List.take_length]; exact hM)))
   have Hb := Lib.hid hb
   clear hf hb
   go_wp2_with fail
   go_ret
   exact ⟨by rw [Hf.out]; simp, Hb.out⟩
end Go.Proofs.YtfihjpffjdnahaaGreatDoor

/- Walk: gazetteerlaw14.has. -/
namespace Go.Proofs.YtfihjpffjdnahaaGreatDoor
open Go.RowKit Classical

end Go.Proofs.YtfihjpffjdnahaaGreatDoor

/- Walk: gazetteerlaw14.first and second. -/
namespace Go.Proofs.YtfihjpffjdnahaaGreatDoor
open Go.RowKit Classical

theorem row_of_blk {w : World} {b : Nat} {xs : List Value} {t : TypeId} (h : Blk w b xs.toArray t) : RowAt w w.heap.size (some ⟨b, 0, none⟩) xs := fun _ =>
 ⟨b, 0, rfl, h.lt, fun i x hi => by rw [h.cell]; simpa using hi⟩

set_option maxRecDepth 100000 in
set_option maxHeartbeats 2000000 in
theorem first14_any (w : World) :
  Calls Tryz.prog 14 #[] w fun e w' => (∃ v, e = .returned v ∧ MachAt w' w'.heap.size v firstM) ∧ Below w.heap.size w w' := by
 go_enter Tryz.func14, Tryz.ntmps14
 go_wp2_with fail
 generalize hW : (((w.alloc _).alloc _).alloc _) = W
 have hb : Below w.heap.size w W := by rw [← hW]; exact (((Below.refl _ _).alloc (Nat.le_refl _) _).alloc (by simp) _).alloc (by simp; omega) _
 have k0 : Blk W w.heap.size #[.int .i64 2, .int .i64 0, .slice (some ⟨w.heap.size + 1, 0, none⟩) 1 1, .slice (some ⟨w.heap.size + 1 + 1, 0, none⟩) 1 1] 25 := by rw [← hW]; exact ((Blk.new _ _ _).alloc _).alloc _
 have k1 : Blk W (w.heap.size + 1) #[.int .i64 1] 3 := by
  rw [← hW]; have := (Blk.new (w.alloc (.cells #[.int .i64 2, .int .i64 0, .slice (some ⟨w.heap.size + 1, 0, none⟩) 1 1, .slice (some ⟨w.heap.size + 1 + 1, 0, none⟩) 1 1] 25)) #[.int .i64 1] 3).alloc (.cells #[.int .i64 0, .int .i64 97, .int .i64 120, .int .i64 1] 40); simpa using this
 have k2 : Blk W (w.heap.size + 1 + 1) #[.int .i64 0, .int .i64 97, .int .i64 120, .int .i64 1] 40 := by
  rw [← hW]; have := Blk.new ((w.alloc (.cells #[.int .i64 2, .int .i64 0, .slice (some ⟨w.heap.size + 1, 0, none⟩) 1 1, .slice (some ⟨w.heap.size + 1 + 1, 0, none⟩) 1 1] 25)).alloc (.cells #[.int .i64 1] 3)) #[.int .i64 0, .int .i64 97, .int .i64 120, .int .i64 1] 40; simpa using this
 have z0 : W.cell? ⟨w.heap.size, 0, none⟩ = some (.int .i64 2) := k0.cell 0
 have z1 : W.cell? ⟨w.heap.size, 1, none⟩ = some (.int .i64 0) := k0.cell 1
 have z2 : W.cell? ⟨w.heap.size, 2, none⟩ = some (.slice (some ⟨w.heap.size + 1, 0, none⟩) 1 1) := k0.cell 2
 have z3 : W.cell? ⟨w.heap.size, 3, none⟩ = some (.slice (some ⟨w.heap.size + 1 + 1, 0, none⟩) 1 1) := k0.cell 3
 clear hW
 refine bodyPost_ret (v := .agg #[.int .i64 2, .int .i64 0, .slice (some ⟨w.heap.size + 1, 0, none⟩) 1 1, .slice (some ⟨w.heap.size + 1 + 1, 0, none⟩) 1 1]) (by simp [results, Tryz.results14, go_sem, z0, z1, z2, z3]) rfl ?_
 exact ⟨⟨_, rfl, ⟨_, _, _, _, rfl, by simp [firstM, maxLen], by simp [firstM, maxLen], row_of_blk (xs := nums firstM.final) k1, row_of_blk (xs := flat firstM.arcs) k2⟩⟩, hb⟩

set_option maxRecDepth 100000 in
set_option maxHeartbeats 2000000 in
theorem second14_any (w : World) :
  Calls Tryz.prog 15 #[] w fun e w' => (∃ v, e = .returned v ∧ MachAt w' w'.heap.size v secondM) ∧ Below w.heap.size w w' := by
 go_enter Tryz.func15, Tryz.ntmps15
 go_wp2_with fail
 generalize hW : (((w.alloc _).alloc _).alloc _) = W
 have hb : Below w.heap.size w W := by rw [← hW]; exact (((Below.refl _ _).alloc (Nat.le_refl _) _).alloc (by simp) _).alloc (by simp; omega) _
 have k0 : Blk W w.heap.size #[.int .i64 2, .int .i64 0, .slice (some ⟨w.heap.size + 1, 0, none⟩) 2 2, .slice (some ⟨w.heap.size + 1 + 1, 0, none⟩) 3 3] 25 := by rw [← hW]; exact ((Blk.new _ _ _).alloc _).alloc _
 have k1 : Blk W (w.heap.size + 1) #[.int .i64 0, .int .i64 1] 3 := by
  rw [← hW]; have := (Blk.new (w.alloc (.cells #[.int .i64 2, .int .i64 0, .slice (some ⟨w.heap.size + 1, 0, none⟩) 2 2, .slice (some ⟨w.heap.size + 1 + 1, 0, none⟩) 3 3] 25)) #[.int .i64 0, .int .i64 1] 3).alloc (.cells #[.int .i64 0, .int .i64 0, .int .i64 117, .int .i64 1, .int .i64 0, .int .i64 120, .int .i64 118, .int .i64 0, .int .i64 1, .int .i64 120, .int .i64 119, .int .i64 1] 40); simpa using this
 have k2 : Blk W (w.heap.size + 1 + 1) #[.int .i64 0, .int .i64 0, .int .i64 117, .int .i64 1, .int .i64 0, .int .i64 120, .int .i64 118, .int .i64 0, .int .i64 1, .int .i64 120, .int .i64 119, .int .i64 1] 40 := by
  rw [← hW]; have := Blk.new ((w.alloc (.cells #[.int .i64 2, .int .i64 0, .slice (some ⟨w.heap.size + 1, 0, none⟩) 2 2, .slice (some ⟨w.heap.size + 1 + 1, 0, none⟩) 3 3] 25)).alloc (.cells #[.int .i64 0, .int .i64 1] 3)) #[.int .i64 0, .int .i64 0, .int .i64 117, .int .i64 1, .int .i64 0, .int .i64 120, .int .i64 118, .int .i64 0, .int .i64 1, .int .i64 120, .int .i64 119, .int .i64 1] 40; simpa using this
 have z0 : W.cell? ⟨w.heap.size, 0, none⟩ = some (.int .i64 2) := k0.cell 0
 have z1 : W.cell? ⟨w.heap.size, 1, none⟩ = some (.int .i64 0) := k0.cell 1
 have z2 : W.cell? ⟨w.heap.size, 2, none⟩ = some (.slice (some ⟨w.heap.size + 1, 0, none⟩) 2 2) := k0.cell 2
 have z3 : W.cell? ⟨w.heap.size, 3, none⟩ = some (.slice (some ⟨w.heap.size + 1 + 1, 0, none⟩) 3 3) := k0.cell 3
 clear hW
 refine bodyPost_ret (v := .agg #[.int .i64 2, .int .i64 0, .slice (some ⟨w.heap.size + 1, 0, none⟩) 2 2, .slice (some ⟨w.heap.size + 1 + 1, 0, none⟩) 3 3]) (by simp [results, Tryz.results15, go_sem, z0, z1, z2, z3]) rfl ?_
 exact ⟨⟨_, rfl, ⟨_, _, _, _, rfl, by simp [secondM, maxLen], by simp [secondM, maxLen], row_of_blk (xs := nums secondM.final) k1, row_of_blk (xs := flat secondM.arcs) k2⟩⟩, hb⟩
end Go.Proofs.YtfihjpffjdnahaaGreatDoor
