/- Walk: compose.Union. -/
import Derived.Test.YtfihjpffjdnahaaGreatDoorDC
import Derived.Maps.AppendAt
namespace Go.Proofs.YtfihjpffjdnahaaGreatDoor
open Go.RowKit Classical

/-- The arcs of one of the two machines in the union. -/
def uOne (A : Mach) (d s : Int) (x : Arc) : List Arc := (⟨x.frm + d, x.inp, x.out, x.to + d⟩ : Arc) :: (if x.frm = A.start then [⟨s, x.inp, x.out, x.to + d⟩] else [])
def uArcs (A : Mach) (d s : Int) (k : Nat) : List Arc := (A.arcs.take k).flatMap (uOne A d s)
theorem uArcs_succ {A : Mach} {d s : Int} {k : Nat} (hk : k < A.arcs.length) : uArcs A d s (k + 1) = uArcs A d s k ++ uOne A d s A.arcs[k] := by
 unfold uArcs
 rw [List.take_add_one, List.getElem?_eq_getElem hk, List.flatMap_append]
 simp
theorem uArcs_len (A : Mach) (d s : Int) (k : Nat) : (uArcs A d s k).length ≤ 2 * A.arcs.length := by
 unfold uArcs
 have h := flatMap_len (uOne A d s) 2 (A.arcs.take k) (fun a _ => by unfold uOne; split <;> simp)
 rw [List.length_take] at h
 omega
def uFin (A : Mach) (d : Int) (k : Nat) : List Int := (A.final.take k).map (· + d)
theorem uFin_succ {A : Mach} {d : Int} {k : Nat} (hk : k < A.final.length) : uFin A d (k + 1) = uFin A d k ++ [A.final[k] + d] := by
 unfold uFin
 rw [List.take_add_one, List.getElem?_eq_getElem hk, List.map_append]
 simp
/-- What was made of the first k machines. -/
def uAl (M N : Mach) : Nat → List Arc
 | 0 => []
 | 1 => uArcs M 0 (M.states + N.states) M.arcs.length
 | _ => uArcs M 0 (M.states + N.states) M.arcs.length ++ uArcs N M.states (M.states + N.states) N.arcs.length
def uFl (M N : Mach) : Nat → List Int
 | 0 => []
 | 1 => uFin M 0 M.final.length
 | _ => uFin M 0 M.final.length ++ uFin N M.states N.final.length
def uBg (M N : Mach) : Nat → Prop
 | 0 => False
 | 1 => M.start ∈ M.final
 | _ => M.start ∈ M.final ∨ N.start ∈ N.final
def uSh (M N : Mach) : Nat → Int
 | 0 => 0
 | 1 => M.states
 | _ => M.states + N.states
theorem union_final {M N : Mach} (hM : ValidM M) (hN : ValidM N) {S : List Arc} (hS : ArcsOf (uAl M N 2) S) : UnionM M N ⟨M.states + N.states + 1, M.states + N.states, uFl M N 2 ++ (if uBg M N 2 then [M.states + N.states] else []), S⟩ := by
 have m1 := hM.one
 have n1 := hN.one
 refine ⟨rfl, rfl, fun s => ?_, ?_, hS.1, fun a => ?_⟩
 ·simp only [uFl, uFin, List.take_length, List.mem_append, List.mem_map, uBg]
  constructor
  ·rintro ((⟨a, h, rfl⟩ | ⟨a, h, rfl⟩) | h)
   ·exact .inl (by simpa using h)
   ·exact .inr (.inl ⟨a, h, rfl⟩)
   ·split at h
    ·rename_i hb
     exact .inr (.inr ⟨by simpa using h, hb⟩)
    ·simp at h
  ·rintro (h | ⟨f, h, rfl⟩ | ⟨rfl, h⟩)
   ·exact .inl (.inl ⟨s, h, by simp⟩)
   ·exact .inl (.inr ⟨f, h, rfl⟩)
   ·rw [if_pos h]; exact .inr (by simp)
 ·simp only [uFl, uFin, List.take_length]
  refine List.pairwise_append.2 ⟨List.pairwise_append.2 ⟨?_, ?_, ?_⟩, ?_, ?_⟩
  ·rw [List.pairwise_map]; exact hM.inc.imp (fun h => by omega)
  ·rw [List.pairwise_map]; exact hN.inc.imp (fun h => by omega)
  ·rintro x hx y hy
   obtain ⟨a, ha, rfl⟩ := List.mem_map.1 hx
   obtain ⟨b, hb, rfl⟩ := List.mem_map.1 hy
   have h1 := hM.final a ha
   have h2 := hN.final b hb
   unfold StateOk at h1 h2
   omega
  ·split <;> simp
  ·rintro x hx y hy
   have hy' : y = M.states + N.states := by
    split at hy
    ·simpa using hy
    ·simp at hy
   rcases List.mem_append.1 hx with hx | hx
   ·obtain ⟨a, ha, rfl⟩ := List.mem_map.1 hx
    have h1 := hM.final a ha
    unfold StateOk at h1
    omega
   ·obtain ⟨a, ha, rfl⟩ := List.mem_map.1 hx
    have h1 := hN.final a ha
    unfold StateOk at h1
    omega
 ·rw [hS.2]
  simp only [uAl, uArcs, List.take_length, List.mem_append, List.mem_flatMap, uOne, List.mem_cons]
  constructor
  ·rintro (⟨b, hb, rfl | h⟩ | ⟨b, hb, rfl | h⟩)
   ·left; simpa using hb
   ·split at h
    ·rename_i hs
     right; right; left
     exact ⟨b, hb, hs, by simpa using h⟩
    ·simp at h
   ·exact .inr (.inl ⟨b, hb, rfl⟩)
   ·split at h
    ·rename_i hs
     exact .inr (.inr (.inr ⟨b, hb, hs, by simpa using h⟩))
    ·simp at h
  ·rintro (h | ⟨b, hb, rfl⟩ | ⟨b, hb, hs, rfl⟩ | ⟨b, hb, hs, rfl⟩)
   ·exact .inl ⟨a, h, .inl (by simp)⟩
   ·exact .inr ⟨b, hb, .inl rfl⟩
   ·exact .inl ⟨b, hb, .inr (by rw [if_pos hs]; simp)⟩
   ·exact .inr ⟨b, hb, .inr (by rw [if_pos hs]; simp)⟩

/-- What compose.Union does. -/
def UniPost (M N : Mach) (w : World) (e : Ending) (w' : World) : Prop :=
 ∃ v U err, e = .returned (.tuple #[v, .int .i64 err]) ∧ MachAt w' w'.heap.size v U ∧ Below w.heap.size w w' ∧ UnionOut M N U err

set_option maxRecDepth 100000 in
set_option maxHeartbeats 4000000 in
theorem Union_any (M N : Mach) (v vn : Value) (w : World) (hM : MachAt w w.heap.size v M) (hN : MachAt w w.heap.size vn N) :
  Calls Tryz.prog 9 #[v, vn] w (UniPost M N w) := by
 have hMA := hM
 have hNA := hN
 obtain ⟨fa, fc, aa, ac, rfl, hfl, hal, hf, ha⟩ := hM
 obtain ⟨fb, fd, ab, ad, rfl, hfl2, hal2, hf2, ha2⟩ := hN
 obtain ⟨W0, hW0⟩ : ∃ W0 : World, W0 = ((w.alloc (.cells #[.int .i64 M.states, .int .i64 M.start, .slice fa M.final.length fc, .slice aa M.arcs.length ac] 25)).alloc (.cells #[.int .i64 N.states, .int .i64 N.start, .slice fb N.final.length fd, .slice ab N.arcs.length ad] 25)).alloc (.cells #[.int .i64 0, .int .i64 0, .slice none 0 0, .slice none 0 0] 25) := ⟨_, rfl⟩
 obtain ⟨b0, hb0⟩ : ∃ b, w.heap.size = b := ⟨_, rfl⟩
 have hw0 : Below b0 w W0 := by rw [hW0, ← hb0]; exact (((Below.refl _ _).alloc (Nat.le_refl _) _).alloc (by simp) _).alloc (by simp; omega) _
 have hsz0 : W0.heap.size = b0 + 3 := by rw [hW0, ← hb0]; simp
 have kM : Blk W0 b0 #[.int .i64 M.states, .int .i64 M.start, .slice fa M.final.length fc, .slice aa M.arcs.length ac] 25 := by rw [hW0, ← hb0]; exact ((Blk.new _ _ _).alloc _).alloc _
 have kN : Blk W0 (b0 + 1) #[.int .i64 N.states, .int .i64 N.start, .slice fb N.final.length fd, .slice ab N.arcs.length ad] 25 := by
  rw [hW0, ← hb0]; have := (Blk.new (w.alloc (.cells #[.int .i64 M.states, .int .i64 M.start, .slice fa M.final.length fc, .slice aa M.arcs.length ac] 25)) #[.int .i64 N.states, .int .i64 N.start, .slice fb N.final.length fd, .slice ab N.arcs.length ad] 25).alloc (.cells #[.int .i64 0, .int .i64 0, .slice none 0 0, .slice none 0 0] 25); simpa using this
 have kR : Blk W0 (b0 + 2) #[.int .i64 0, .int .i64 0, .slice none 0 0, .slice none 0 0] 25 := by
  rw [hW0, ← hb0]; have := Blk.new ((w.alloc (.cells #[.int .i64 M.states, .int .i64 M.start, .slice fa M.final.length fc, .slice aa M.arcs.length ac] 25)).alloc (.cells #[.int .i64 N.states, .int .i64 N.start, .slice fb N.final.length fd, .slice ab N.arcs.length ad] 25)) #[.int .i64 0, .int .i64 0, .slice none 0 0, .slice none 0 0] 25; simpa using this
 -- what lay, and the two boxes, in every world that only grew
 have HM := Lib.hid (fun (wr : World) (hbw : Below (b0 + 3) W0 wr) => And.intro (kM.below hbw (by omega)) (And.intro (kN.below hbw (by omega)) (kR.below hbw (by omega))))
 have HA := Lib.hid (fun (wr : World) (hbw : Below (b0 + 3) W0 wr) => (show MachAt wr wr.heap.size (.agg #[.int .i64 M.states, .int .i64 M.start, .slice fa M.final.length fc, .slice aa M.arcs.length ac]) M ∧ MachAt wr wr.heap.size (.agg #[.int .i64 N.states, .int .i64 N.start, .slice fb N.final.length fd, .slice ab N.arcs.length ad]) N from by
  have h1 : Below w.heap.size w wr := by rw [hb0]; exact hw0.trans (hbw.mono (by omega))
  exact ⟨(hMA.below h1 (Nat.le_refl _)).more h1.size, (hNA.below h1 (Nat.le_refl _)).more h1.size⟩))
 have HW := Lib.hid (And.intro hW0 (And.intro hw0 (And.intro hsz0 hb0)))
 have Hrows := Lib.hid (And.intro hf (And.intro hf2 (And.intro ha ha2)))
 clear hW0 hw0 hsz0 kM kN kR hMA hNA hf hf2 ha ha2
 go_enter Tryz.func9, Tryz.ntmps9
 go_upto_region 1 with (fail)

 clear hb0
 have hW := HW.out.1
 rw [← hW]
 clear hW
 obtain ⟨bR, hbR⟩ : ∃ b, b = b0 + 1 + 1 := ⟨_, rfl⟩
 obtain ⟨bN, hbN⟩ : ∃ b, b = b0 + 1 := ⟨_, rfl⟩
 rw [← hbR, ← hbN]
 have HM := Lib.hid (fun (wr : World) (hbw : Below (b0 + 3) W0 wr) => (show Blk wr b0 #[.int .i64 M.states, .int .i64 M.start, .slice fa M.final.length fc, .slice aa M.arcs.length ac] 25 ∧ Blk wr bN #[.int .i64 N.states, .int .i64 N.start, .slice fb N.final.length fd, .slice ab N.arcs.length ad] 25 ∧ Blk wr bR #[.int .i64 0, .int .i64 0, .slice none 0 0, .slice none 0 0] 25 from by rw [hbR, hbN]; exact HM.out wr hbw))
 have hbl : b0 < bN ∧ bN < bR ∧ bR < b0 + 3 := by omega
 clear hbR hbN
 obtain ⟨hmM, hmN, hmR⟩ := HM.out W0 (Below.refl _ _)
 have m0 : W0.cell? ⟨b0, 0, none⟩ = some (.int .i64 M.states) := hmM.cell 0
 have m1 : W0.cell? ⟨b0, 1, none⟩ = some (.int .i64 M.start) := hmM.cell 1
 have m2 : W0.cell? ⟨b0, 2, none⟩ = some (.slice fa M.final.length fc) := hmM.cell 2
 have m3 : W0.cell? ⟨b0, 3, none⟩ = some (.slice aa M.arcs.length ac) := hmM.cell 3
 clear hmM hmN hmR
 go_wp2_with fail
 refine (MValid_any M _ W0 (HA.out W0 (Below.refl _ _)).1).mono ?_
 clear m0 m1 m2 m3
 rintro e w1 ⟨rfl, hb1⟩
 rw [HW.out.2.2.1] at hb1
 by_cases hv : ValidM M
 case neg =>
  rw [decide_eq_false hv]
  obtain ⟨-, -, hmR⟩ := HM.out w1 hb1
  have z0 : w1.cell? ⟨bR, 0, none⟩ = some (.int .i64 0) := hmR.cell 0
  have z1 : w1.cell? ⟨bR, 1, none⟩ = some (.int .i64 0) := hmR.cell 1
  have z2 : w1.cell? ⟨bR, 2, none⟩ = some (.slice none 0 0) := hmR.cell 2
  have z3 : w1.cell? ⟨bR, 3, none⟩ = some (.slice none 0 0) := hmR.cell 3
  have fz : ∀ j, w1.frozen? ⟨bR, j, none⟩ = false := fun j => hmR.frozen j
  have hbF : Below b0 w w1 := HW.out.2.1.trans (hb1.mono (by omega))
  have hbs := (((hbF.setCell (p := ⟨bR, 0, none⟩) (by simp; omega) (.int .i64 0)).setCell (p := ⟨bR, 1, none⟩) (by simp; omega) (.int .i64 0)).setCell (p := ⟨bR, 2, none⟩) (by simp; omega) (.slice none 0 0)).setCell (p := ⟨bR, 3, none⟩) (by simp; omega) (.slice none 0 0)
  rw [← HW.out.2.2.2] at hbs
  have Hbs := Lib.hid hbs
  have Hno := Lib.hid (show ¬ (ValidM M ∧ ValidM N) from fun h => hv h.1)
  clear hmR hbF hbs
  go_wp2_with fail
  refine bodyPost_ret (v := .tuple #[.agg #[.int .i64 0, .int .i64 0, .slice none 0 0, .slice none 0 0], .int .i64 1]) (by simp [results, Tryz.results9, go_sem, z0, z1, z2, z3]) rfl ?_
  exact ⟨_, zeroM, 1, rfl, zero_mach _ _, Hbs.out, .inl ⟨Hno.out, rfl, rfl⟩⟩
 rw [decide_eq_true hv]
 obtain ⟨hmM, hmN, hmR⟩ := HM.out w1 hb1
 have n0 : w1.cell? ⟨bN, 0, none⟩ = some (.int .i64 N.states) := hmN.cell 0
 have n1 : w1.cell? ⟨bN, 1, none⟩ = some (.int .i64 N.start) := hmN.cell 1
 have n2 : w1.cell? ⟨bN, 2, none⟩ = some (.slice fb N.final.length fd) := hmN.cell 2
 have n3 : w1.cell? ⟨bN, 3, none⟩ = some (.slice ab N.arcs.length ad) := hmN.cell 3
 clear hmM hmN hmR
 go_wp2_with fail
 refine (MValid_any N _ w1 (HA.out w1 hb1).2).mono ?_
 clear n0 n1 n2 n3
 rintro e w2 ⟨rfl, hb2⟩
 by_cases hvN : ValidM N
 case neg =>
  rw [decide_eq_false hvN]
  have hb2' : Below (b0 + 3) W0 w2 := hb1.trans (hb2.mono (by have := hb1.size; have := HW.out.2.2.1; omega))
  obtain ⟨-, -, hmR⟩ := HM.out w2 hb2'
  have z0 : w2.cell? ⟨bR, 0, none⟩ = some (.int .i64 0) := hmR.cell 0
  have z1 : w2.cell? ⟨bR, 1, none⟩ = some (.int .i64 0) := hmR.cell 1
  have z2 : w2.cell? ⟨bR, 2, none⟩ = some (.slice none 0 0) := hmR.cell 2
  have z3 : w2.cell? ⟨bR, 3, none⟩ = some (.slice none 0 0) := hmR.cell 3
  have fz : ∀ j, w2.frozen? ⟨bR, j, none⟩ = false := fun j => hmR.frozen j
  have hbF : Below b0 w w2 := HW.out.2.1.trans (hb2'.mono (by omega))
  have hbs := (((hbF.setCell (p := ⟨bR, 0, none⟩) (by simp; omega) (.int .i64 0)).setCell (p := ⟨bR, 1, none⟩) (by simp; omega) (.int .i64 0)).setCell (p := ⟨bR, 2, none⟩) (by simp; omega) (.slice none 0 0)).setCell (p := ⟨bR, 3, none⟩) (by simp; omega) (.slice none 0 0)
  rw [← HW.out.2.2.2] at hbs
  have Hbs := Lib.hid hbs
  have Hno := Lib.hid (show ¬ (ValidM M ∧ ValidM N) from fun h => hvN h.2)
  clear hmR hbF hbs
  go_wp2_with fail
  refine bodyPost_ret (v := .tuple #[.agg #[.int .i64 0, .int .i64 0, .slice none 0 0, .slice none 0 0], .int .i64 1]) (by simp [results, Tryz.results9, go_sem, z0, z1, z2, z3]) rfl ?_
  exact ⟨_, zeroM, 1, rfl, zero_mach _ _, Hbs.out, .inl ⟨Hno.out, rfl, rfl⟩⟩
 rw [decide_eq_true hvN]
 have hb2' : Below (b0 + 3) W0 w2 := hb1.trans (hb2.mono (by have := hb1.size; have := HW.out.2.2.1; omega))
 have HV := Lib.hid (And.intro hv hvN)
 have m1 := hv.one
 have m4 := hv.most
 have n1 := hvN.one
 have n4 := hvN.most
 have hz2 : b0 + 3 ≤ w2.heap.size := by have := hb2'.size; have := HW.out.2.2.1; omega
 have Hb2 := Lib.hid hb2'
 clear hb1 hb2 hb2' hv hvN
 obtain ⟨hmM, hmN, -⟩ := HM.out w2 Hb2.out
 have m0 : w2.cell? ⟨b0, 0, none⟩ = some (.int .i64 M.states) := hmM.cell 0
 have n0 : w2.cell? ⟨bN, 0, none⟩ = some (.int .i64 N.states) := hmN.cell 0
 have e1 : IntKind.i64.wrap (M.states + N.states) = M.states + N.states := IntWalk.i64_in _ (by omega)
 have e2 : IntKind.i64.wrap (M.states + N.states + 1) = M.states + N.states + 1 := IntWalk.i64_in _ (by omega)
 clear hmM hmN
 go_upto_region 4 with (fail)
 obtain ⟨W3, hW3⟩ : ∃ W3 : World, W3 = w2.alloc (.cells #[.int .i64 (M.states + N.states + 1), .int .i64 (M.states + N.states), .slice none 0 0, .slice none 0 0] 25) := ⟨_, rfl⟩
 rw [← hW3]
 have hb3 : Below w2.heap.size w2 W3 := by rw [hW3]; exact (Below.refl _ _).alloc (Nat.le_refl _) _
 have kO : Blk W3 w2.heap.size #[.int .i64 (M.states + N.states + 1), .int .i64 (M.states + N.states), .slice none 0 0, .slice none 0 0] 25 := by rw [hW3]; exact Blk.new _ _ _
 have hb03 : Below (b0 + 3) W0 W3 := Hb2.out.trans (hb3.mono hz2)
 obtain ⟨s0, hs0⟩ : ∃ s0, s0 = M.states + N.states := ⟨_, rfl⟩
 rw [← hs0] at kO e1 e2 hW3 ⊢
 obtain ⟨bO, hbO⟩ : ∃ b, w2.heap.size = b := ⟨_, rfl⟩
 rw [hbO] at kO hb3 hz2 ⊢
 have hO3 : OutAt W3 bO bO (s0 + 1) s0 [] [] (.slice none 0 0) (.slice none 0 0) := ⟨kO, World.ownsRow_nil _ _ _ _, World.ownsRow_nil _ _ _ _⟩
 have Hs0 := Lib.hid (And.intro hs0 hbO)
 have hs01 : 2 ≤ s0 ∧ s0 ≤ 8000 := by omega
 have H3 := Lib.hid (And.intro hO3 (And.intro hb3 hb03))
 obtain ⟨hmM, hmN, -⟩ := HM.out W3 hb03
 have q0 : W3.cell? ⟨b0, 0, none⟩ = some (.int .i64 M.states) := hmM.cell 0
 have q1 : W3.cell? ⟨b0, 1, none⟩ = some (.int .i64 M.start) := hmM.cell 1
 have q2 : W3.cell? ⟨b0, 2, none⟩ = some (.slice fa M.final.length fc) := hmM.cell 2
 have q3 : W3.cell? ⟨b0, 3, none⟩ = some (.slice aa M.arcs.length ac) := hmM.cell 3
 have r0 : W3.cell? ⟨bN, 0, none⟩ = some (.int .i64 N.states) := hmN.cell 0
 have r1 : W3.cell? ⟨bN, 1, none⟩ = some (.int .i64 N.start) := hmN.cell 1
 have r2 : W3.cell? ⟨bN, 2, none⟩ = some (.slice fb N.final.length fd) := hmN.cell 2
 have r3 : W3.cell? ⟨bN, 3, none⟩ = some (.slice ab N.arcs.length ad) := hmN.cell 3
 clear m0 n0 e1 e2 hW3 hb3 kO hb03 hO3 hs0 hbO hmM hmN
 go_wp2_with fail
 generalize hW4 : (W3.alloc _) = W4
 have hb4 : Below W3.heap.size W3 W4 := by rw [← hW4]; exact (Below.refl _ _).alloc (Nat.le_refl _) _
 have kA : Blk W4 W3.heap.size #[.int .i64 M.states, .int .i64 M.start, .slice fa M.final.length fc, .slice aa M.arcs.length ac, .int .i64 N.states, .int .i64 N.start, .slice fb N.final.length fd, .slice ab N.arcs.length ad] 25 := by rw [← hW4]; exact Blk.new _ _ _
 obtain ⟨bA, hbA⟩ : ∃ b, W3.heap.size = b := ⟨_, rfl⟩
 have hO4 := H3.out.1.below hb4
 have hO3l := H3.out.1.blk.lt
 have hb24 : Below bO w2 W4 := H3.out.2.1.trans (hb4.mono (by omega))
 rw [hbA] at kA hb4 hO3l ⊢
 have H4 := Lib.hid (And.intro kA (And.intro hO4 hb24))
 clear hW4 hb4 kA hO4 hb24 hbA q0 q1 q2 q3 r0 r1 r2 r3
 have hRow : ∀ wr, Below bO w2 wr → (RowAt wr wr.heap.size fa (nums M.final) ∧ RowAt wr wr.heap.size aa (flat M.arcs)) ∧ (RowAt wr wr.heap.size fb (nums N.final) ∧ RowAt wr wr.heap.size ab (flat N.arcs)) := fun wr hb => by
  have h1 : Below w.heap.size w wr := by rw [HW.out.2.2.2]; exact HW.out.2.1.trans ((Hb2.out.trans (hb.mono hz2)).mono (by omega))
  exact ⟨⟨(Hrows.out.1.below h1 (Nat.le_refl _)).more h1.size, (Hrows.out.2.2.1.below h1 (Nat.le_refl _)).more h1.size⟩, (Hrows.out.2.1.below h1 (Nat.le_refl _)).more h1.size, (Hrows.out.2.2.2.below h1 (Nat.le_refl _)).more h1.size⟩
 have HRow := Lib.hid hRow
 clear hRow
 obtain ⟨i0, hi, hz0, hz1, hz2'⟩ := info_parts info_int
 obtain ⟨j0, hj, hj0, hj1, hj2⟩ := info_parts info_arc
 have hlenU : ∀ A : Mach, ValidM A → A.arcs.length ≤ 20000 ∧ A.final.length ≤ 4000 := fun A h => ⟨h.arcsLen, final_most h⟩
 go_loopw [7, 8, 41] (fun s7 s8 s41 wr => ∃ (k : Nat) (fv av : Value), k ≤ 2 ∧ s41 = .int .i64 k ∧ s7 = .bool (decide (uBg M N k)) ∧ s8 = .int .i64 (uSh M N k) ∧ OutAt wr bO bO (s0 + 1) s0 (uFl M N k) (uAl M N k) fv av ∧ Blk wr bA #[.int .i64 M.states, .int .i64 M.start, .slice fa M.final.length fc, .slice aa M.arcs.length ac, .int .i64 N.states, .int .i64 N.start, .slice fb N.final.length fd, .slice ab N.arcs.length ad] 25 ∧ Below bO w2 wr) (fun _ _ s41 _ => 2 - (intOf s41).toNat)
 case atStart => exact ⟨0, _, _, Nat.zero_le _, rfl, by simp [uBg], rfl, H4.out.2.1, H4.out.1, H4.out.2.2⟩
 case round =>
  obtain ⟨k, fv, av, hk, rfl, rfl, rfl, hO, hA, hb⟩ := hrel
  by_cases hk2 : k < 2
  ·obtain ⟨A, xa, xc, ya, yc, hc, hv, hrow, hfl', hal', hbg, hsh, hd0, hd1⟩ : ∃ (A : Mach) (xa : Option Addr) (xc : Nat) (ya : Option Addr) (yc : Nat), (wr.cell? ⟨bA, k * 4, none⟩ = some (.int .i64 A.states) ∧ wr.cell? ⟨bA, k * 4 + 1, none⟩ = some (.int .i64 A.start) ∧ wr.cell? ⟨bA, k * 4 + 2, none⟩ = some (.slice xa A.final.length xc) ∧ wr.cell? ⟨bA, k * 4 + 3, none⟩ = some (.slice ya A.arcs.length yc)) ∧ ValidM A ∧ (∀ wr, Below bO w2 wr → RowAt wr wr.heap.size xa (nums A.final) ∧ RowAt wr wr.heap.size ya (flat A.arcs)) ∧
     uFl M N (k + 1) = uFl M N k ++ uFin A (uSh M N k) A.final.length ∧ uAl M N (k + 1) = uAl M N k ++ uArcs A (uSh M N k) s0 A.arcs.length ∧ (uBg M N (k + 1) ↔ uBg M N k ∨ A.start ∈ A.final) ∧ uSh M N (k + 1) = uSh M N k + A.states ∧ 0 ≤ uSh M N k ∧ uSh M N k ≤ 4000 := by
    have e := Hs0.out.1
    rcases (show k = 0 ∨ k = 1 by omega) with rfl | rfl
    ·exact ⟨M, fa, fc, aa, ac, ⟨hA.cell 0, hA.cell 1, hA.cell 2, hA.cell 3⟩, HV.out.1, fun wr h => (HRow.out wr h).1, by simp [uFl, uSh], by simp [uAl, uSh, e], by simp [uBg], by simp [uSh], by simp [uSh], by simp [uSh]⟩
    ·exact ⟨N, fb, fd, ab, ad, ⟨hA.cell 4, hA.cell 5, hA.cell 6, hA.cell 7⟩, HV.out.2, fun wr h => (HRow.out wr h).2, by simp [uFl, uSh], by simp [uAl, uSh, e], by simp [uBg], by simp [uSh], by simp [uSh]; omega, by simp [uSh]; omega⟩
   obtain ⟨c0, c1, c2, c3⟩ := hc
   obtain ⟨d, hd⟩ : ∃ d, d = uSh M N k := ⟨_, rfl⟩
   rw [← hd] at hfl' hal' hsh hd0 hd1 ⊢
   have hAs1 := hv.one
   have hAs4 := hv.most
   obtain ⟨hAl, hAf⟩ := hlenU A hv
   have hul : (uAl M N k).length ≤ 80000 := by
    have h1 := uArcs_len M 0 (M.states + N.states) M.arcs.length
    have h2 := (hlenU M HV.out.1).1
    rcases (show k = 0 ∨ k = 1 by omega) with rfl | rfl
    ·simp [uAl]
    ·simp only [uAl]; omega
   have hufl : (uFl M N k).length ≤ 4000 := by
    have h2 := (hlenU M HV.out.1).2
    rcases (show k = 0 ∨ k = 1 by omega) with rfl | rfl
    ·simp [uFl]
    ·simp only [uFl, uFin, List.length_map, List.take_length]; omega
   have HK := Lib.hid (And.intro hfl' (And.intro hal' (And.intro hbg (And.intro hsh (And.intro hrow (And.intro hv hd))))))
   clear hfl' hal' hbg hsh hrow hv hd hlenU
   go_upto_region 9 with (fail)
   obtain ⟨W7, hW7⟩ : ∃ W7 : World, W7 = wr.alloc (.cells #[.int .i64 A.states, .int .i64 A.start, .slice xa A.final.length xc, .slice ya A.arcs.length yc] 25) := ⟨_, rfl⟩
   rw [← hW7]
   obtain ⟨wo, rfl⟩ : ∃ wo : World, wo = wr := ⟨_, rfl⟩
   have hb7 : Below wo.heap.size wo W7 := by rw [hW7]; exact (Below.refl _ _).alloc (Nat.le_refl _) _
   have k7 : Blk W7 wo.heap.size #[.int .i64 A.states, .int .i64 A.start, .slice xa A.final.length xc, .slice ya A.arcs.length yc] 25 := by rw [hW7]; exact Blk.new _ _ _
   have hO7 := hO.below hb7
   have hA7 := hA.below hb7 hA.lt
   have hzo := hb.size
   have hbl7 : Below bO w2 W7 := hb.trans (hb7.mono (by have := hO.blk.lt; omega))
   have hbM : bO < wo.heap.size := hO.blk.lt
   have o3 : W7.cell? ⟨wo.heap.size, 3, none⟩ = some (.slice ya A.arcs.length yc) := k7.cell 3
   have H7 := Lib.hid (And.intro k7 (And.intro hO7 (And.intro hA7 hbl7)))
   clear hW7 hb7 k7 hO7 hA7 hbl7 hO hA hb c0 c1 c2 c3 hzo
   go_wp2_with fail
   clear o3
   have hk2d : decide ((k : Int) < 2) = true := decide_eq_true (by omega)
   try rw [hk2d]
   clear hk2d
   go_loopw [48] (fun s48 wx => ∃ (j : Nat) (av' : Value), j ≤ A.arcs.length ∧ s48 = .int .i64 j ∧ OutAt wx bO bO (s0 + 1) s0 (uFl M N k) (uAl M N k ++ uArcs A d s0 j) fv av' ∧ Blk wx bA #[.int .i64 M.states, .int .i64 M.start, .slice fa M.final.length fc, .slice aa M.arcs.length ac, .int .i64 N.states, .int .i64 N.start, .slice fb N.final.length fd, .slice ab N.arcs.length ad] 25 ∧ Blk wx wo.heap.size #[.int .i64 A.states, .int .i64 A.start, .slice xa A.final.length xc, .slice ya A.arcs.length yc] 25 ∧ Below bO w2 wx) (fun s48 _ => A.arcs.length - (intOf s48).toNat)
   case atStart => exact ⟨0, av, Nat.zero_le _, rfl, by simpa [uArcs] using H7.out.2.1, H7.out.2.2.1, H7.out.1, H7.out.2.2.2⟩
   case round =>
    obtain ⟨j, av', hjn, rfl, hO, hA, h7, hbl7⟩ := hrel
    by_cases hjl : j < A.arcs.length
    ·obtain ⟨yb, yo, rfl, -, hyc⟩ := (HK.out.2.2.2.2.1 wr hbl7).2.arcs (by omega)
     obtain ⟨x, hx⟩ : ∃ x, A.arcs[j] = x := ⟨_, rfl⟩
     obtain ⟨x0, x1, x2, x3⟩ := hyc j hjl
     rw [hx] at x0 x1 x2 x3
     clear hyc
     obtain ⟨q1, q2, -⟩ := HK.out.2.2.2.2.2.1.arcs A.arcs[j] (List.getElem_mem hjl)
     rw [hx] at q1 q2
     unfold StateOk at q1 q2
     have e1 : IntKind.i64.wrap (x.frm + d) = x.frm + d := IntWalk.i64_in _ (by omega)
     have e2 : IntKind.i64.wrap (x.to + d) = x.to + d := IntWalk.i64_in _ (by omega)
     have hsucc := uArcs_succ (d := d) (s := s0) hjl
     rw [hx] at hsucc
     have hul2 := uArcs_len A d s0 j
     have hll : (uAl M N k ++ uArcs A d s0 j).length ≤ 120000 := by rw [List.length_append]; omega
     obtain ⟨L, hL⟩ : ∃ L, uAl M N k ++ uArcs A d s0 j = L := ⟨_, rfl⟩
     have hsl : uAl M N k ++ uArcs A d s0 (j + 1) = L ++ uOne A d s0 x := by rw [hsucc, ← List.append_assoc, hL]
     rw [hL] at hO hll
     have Hs := Lib.hid hsl
     clear hsucc hx q1 q2 hL hsl
     have HR := Lib.hid (And.intro hO (And.intro hA (And.intro h7 hbl7)))
     have hbwr : bO < wr.heap.size := hO.blk.lt
     clear hO hA h7 hbl7
     go_upto_region 13 with (fail)
     generalize hW8 : ((wr.alloc _).alloc _) = W8
     have b8 : Below wr.heap.size wr W8 := by rw [← hW8]; exact ((Below.refl _ _).alloc (Nat.le_refl _) _).alloc (by simp) _
     have k12 : Blk W8 wr.heap.size #[.int .i64 x.frm, .int .i64 x.inp, .int .i64 x.out, .int .i64 x.to] 40 := by rw [← hW8]; exact (Blk.new _ _ _).alloc _
     have k13 : Blk W8 (wr.heap.size + 1) #[.int .i64 (x.frm + d), .int .i64 x.inp, .int .i64 x.out, .int .i64 (x.to + d)] 40 := by
      rw [← hW8]; have := Blk.new (wr.alloc (.cells #[.int .i64 x.frm, .int .i64 x.inp, .int .i64 x.out, .int .i64 x.to] 40)) #[.int .i64 (x.frm + d), .int .i64 x.inp, .int .i64 x.out, .int .i64 (x.to + d)] 40; simpa using this
     have hO8 := HR.out.1.below b8
     have hA8 := HR.out.2.1.below b8 HR.out.2.1.lt
     have h78 := HR.out.2.2.1.below b8 HR.out.2.2.1.lt
     have hbl8 := HR.out.2.2.2.trans (b8.mono (by have := HR.out.1.blk.lt; omega))
     have how : ∀ g, av'.ownBlock = some g → g < wr.heap.size := fun g e => (HR.out.1.arc.lt g e).2
     have hsz8 : wr.heap.size + 2 ≤ W8.heap.size := by have := k13.lt; omega
     clear hW8 b8 x0 x1 x2 x3 e1 e2
     obtain ⟨ava, avc, rfl, -, -⟩ := RowAt.of_own hO8.arc
     have y3 : W8.cell? ⟨bO, 3, none⟩ = some (.slice ava L.length avc) := hO8.blk.cell 3
     have x0 : W8.cell? ⟨wr.heap.size + 1, 0, none⟩ = some (.int .i64 (x.frm + d)) := k13.cell 0
     have x1 : W8.cell? ⟨wr.heap.size + 1, 1, none⟩ = some (.int .i64 x.inp) := k13.cell 1
     have x2 : W8.cell? ⟨wr.heap.size + 1, 2, none⟩ = some (.int .i64 x.out) := k13.cell 2
     have x3 : W8.cell? ⟨wr.heap.size + 1, 3, none⟩ = some (.int .i64 (x.to + d)) := k13.cell 3
     have H8 := Lib.hid (And.intro hO8 (And.intro hA8 (And.intro h78 (And.intro hbl8 (And.intro k12 (And.intro k13 how))))))
     clear hO8 hA8 h78 hbl8 k12 k13 how
     go_wp2_with (at_builtin; refine wpList_append_own_at _ rfl _ _ 23 rfl bO 40 j0 _ 4 32 Tryz.underlying23 hj hj0 hj1 hj2 rfl (by decide) _ _ _ rfl (World.ownsRow.alloc H8.out.1.arc _) ⟨W8.heap.size, 0, none⟩ 1 1 [.int .i64 (x.frm + d), .int .i64 x.inp, .int .i64 x.out, .int .i64 (x.to + d)] rfl rfl (by exact cells_new _ _ _) (by simp [Value.oneCell']) (by unfold maxLen; omega) (by omega) (by simp; omega) ?_)
     intro v9 w9 hown9 hgrow9 _ hat9
     obtain ⟨va9, vc9, rfl, -, -⟩ := RowAt.of_own hown9
     obtain ⟨s1, s2, s3, s4, s5⟩ := H8.out.1.arc_step (Nat.le_refl _) (x := ⟨x.frm + d, x.inp, x.out, x.to + d⟩) ((Below.refl _ _).alloc (Nat.le_refl _) _) hown9 hgrow9 hat9 (by simp)
     have y3' : w9.cell? ⟨bO, 3, none⟩ = some (.slice ava L.length avc) := s2.cell 3
     have f3 := s2.frozen 3
     have hsA := s3 _ _ _ (by omega) (H8.out.2.1.own_ne H8.out.1.arc (by decide)) H8.out.2.1
     have hs7 := s3 _ _ _ (by omega) (H8.out.2.2.1.own_ne H8.out.1.arc (by decide)) H8.out.2.2.1
     have hs12 := s3 _ _ _ (by omega) (fun e => by have := H8.out.2.2.2.2.2.2 _ e; omega) H8.out.2.2.2.2.1
     have hs13 := s3 _ _ _ (by omega) (fun e => by have := H8.out.2.2.2.2.2.2 _ e; omega) H8.out.2.2.2.2.2.1
     have hbl9 := H8.out.2.2.2.1.trans (s4.mono (Nat.le_refl _))
     have hsz9 := s4.size
     clear y3 x0 x1 x2 x3 hown9 hgrow9 hat9 s2 s3 s4
     go_upto_region 14 with (fail)
     generalize hW10 : w9.setCell ⟨bO, 3, none⟩ _ = W10 at s1 hsA hs7 hs12 hs13 hbl9 hsz9 ⊢
     clear hW10 y3' f3
     have u0 : W10.cell? ⟨wr.heap.size, 0, none⟩ = some (.int .i64 x.frm) := hs12.cell 0
     have u1 : W10.cell? ⟨wo.heap.size, 1, none⟩ = some (.int .i64 A.start) := hs7.cell 1
     by_cases hst : x.frm = A.start
     case neg =>
      have d1 : (x.frm == A.start) = false := by simp [hst]
      have Hl := Lib.hid (show L ++ uOne A d s0 x = L ++ [⟨x.frm + d, x.inp, x.out, x.to + d⟩] by unfold uOne; rw [if_neg hst])
      have H10 := Lib.hid (And.intro s1 (And.intro hsA (And.intro hs7 hbl9)))
      clear s1 hsA hs7 hs12 hs13 hbl9 hst
      go_wp2_with fail
      exact ⟨⟨j + 1, _, by omega, by go_num, by rw [Hs.out, Hl.out]; exact H10.out.1, H10.out.2.1, H10.out.2.2.1, H10.out.2.2.2⟩, by simp [intOf]; omega⟩
     have d1 : (x.frm == A.start) = true := by simp [hst]
     have Hl := Lib.hid (show L ++ uOne A d s0 x = (L ++ [⟨x.frm + d, x.inp, x.out, x.to + d⟩]) ++ [⟨s0, x.inp, x.out, x.to + d⟩] by unfold uOne; rw [if_pos hst]; simp)
     have b1 : W10.cell? ⟨bO, 1, none⟩ = some (.int .i64 s0) := s1.blk.cell 1
     have v0 : W10.cell? ⟨wr.heap.size + 1, 0, none⟩ = some (.int .i64 (x.frm + d)) := hs13.cell 0
     have f0 := hs13.frozen 0
     clear hst hs12
     go_upto_region 16 with (fail)
     clear u0 u1 b1 v0 f0 d1
     generalize hW11 : W10.setCell ⟨wr.heap.size + 1, 0, none⟩ (.int .i64 s0) = W11
     have hc11 : Chg (fun k => k = wr.heap.size + 1) W10 W11 := by rw [← hW11]; exact Chg.setCell (S := fun k => k = wr.heap.size + 1) (p := ⟨wr.heap.size + 1, 0, none⟩) _ (.inl rfl) _
     have k11 : Blk W11 (wr.heap.size + 1) #[.int .i64 s0, .int .i64 x.inp, .int .i64 x.out, .int .i64 (x.to + d)] 40 := by rw [← hW11]; have := hs13.set_ 0 (.int .i64 s0); simpa using this
     have hO11 := s1.chg2 hc11 (by omega) (fun g e h => hs13.own_ne s1.fin (by decide) (by rw [← h]; exact e)) (fun g e h => by
      rcases s5 g e with q | q
      ·have := H8.out.2.2.2.2.2.2 _ q; omega
      ·omega)
     have hltA := HR.out.2.1.lt
     have hlt7 := HR.out.2.2.1.lt
     have hA11 := hsA.chg hc11 (by omega)
     have h711 := hs7.chg hc11 (by omega)
     have hbl11 := hbl9.trans (hc11.below (B := bO) (fun k hk => by omega) (by omega))
     have hz11 := hc11.size
     clear hW11 s1 s5 hsA hs7 hs13 hbl9 hc11
     obtain ⟨L1, hL1⟩ : ∃ L1 : List Arc, L ++ [⟨x.frm + d, x.inp, x.out, x.to + d⟩] = L1 := ⟨_, rfl⟩
     have hl1 : L1.length = L.length + 1 := by rw [← hL1]; simp
     rw [hL1] at hO11 Hl
     have y3 : W11.cell? ⟨bO, 3, none⟩ = some (.slice va9 (L.length + 1) vc9) := hO11.blk.cell 3
     have x0 : W11.cell? ⟨wr.heap.size + 1, 0, none⟩ = some (.int .i64 s0) := k11.cell 0
     have x1 : W11.cell? ⟨wr.heap.size + 1, 1, none⟩ = some (.int .i64 x.inp) := k11.cell 1
     have x2 : W11.cell? ⟨wr.heap.size + 1, 2, none⟩ = some (.int .i64 x.out) := k11.cell 2
     have x3 : W11.cell? ⟨wr.heap.size + 1, 3, none⟩ = some (.int .i64 (x.to + d)) := k11.cell 3
     have H11 := Lib.hid (And.intro hO11 (And.intro hA11 (And.intro h711 hbl11)))
     clear hO11 hA11 h711 hbl11 hL1 k11
     go_wp2_with (at_builtin; refine wpList_append_own_at _ rfl _ _ 23 rfl bO 40 j0 _ 4 32 Tryz.underlying23 hj hj0 hj1 hj2 rfl (by decide) _ _ _ rfl (World.ownsRow.alloc H11.out.1.arc _) ⟨W11.heap.size, 0, none⟩ 1 1 [.int .i64 s0, .int .i64 x.inp, .int .i64 x.out, .int .i64 (x.to + d)] rfl rfl (by exact cells_new _ _ _) (by simp [Value.oneCell']) (by unfold maxLen; omega) (by omega) (by simp; omega) ?_)
     intro v12 w12 hown12 hgrow12 _ hat12
     obtain ⟨va12, vc12, rfl, -, -⟩ := RowAt.of_own hown12
     obtain ⟨s1, s2, s3, s4, -⟩ := H11.out.1.arc_step (Nat.le_refl _) (x := ⟨s0, x.inp, x.out, x.to + d⟩) ((Below.refl _ _).alloc (Nat.le_refl _) _) (by rw [hl1]; exact hown12) hgrow12 hat12 (by simp)
     have y3' : w12.cell? ⟨bO, 3, none⟩ = some (.slice va9 (L.length + 1) vc9) := s2.cell 3
     have f3 := s2.frozen 3
     have hsA := s3 _ _ _ (by omega) (H11.out.2.1.own_ne H11.out.1.arc (by decide)) H11.out.2.1
     have hs7 := s3 _ _ _ (by omega) (H11.out.2.2.1.own_ne H11.out.1.arc (by decide)) H11.out.2.2.1
     have hbl12 := H11.out.2.2.2.trans (s4.mono (Nat.le_refl _))
     have H12 := Lib.hid (And.intro s1 (And.intro hsA (And.intro hs7 hbl12)))
     clear y3 x0 x1 x2 x3 hown12 hgrow12 hat12 s1 s2 s3 s4 hsA hs7 hbl12
     go_wp2_with fail
     exact ⟨⟨j + 1, _, by omega, by go_num, by rw [Hs.out, Hl.out]; exact H12.out.1, H12.out.2.1, H12.out.2.2.1, H12.out.2.2.2⟩, by simp [intOf]; omega⟩
    ·obtain rfl : j = A.arcs.length := by omega
     obtain ⟨wi, rfl⟩ : ∃ wi : World, wi = wr := ⟨_, rfl⟩
     have c2 : wi.cell? ⟨wo.heap.size, 2, none⟩ = some (.slice xa A.final.length xc) := h7.cell 2
     obtain ⟨L, hL⟩ : ∃ L, uAl M N k ++ uArcs A d s0 A.arcs.length = L := ⟨_, rfl⟩
     rw [hL] at hO
     have HR := Lib.hid (And.intro hO (And.intro hA (And.intro h7 hbl7)))
     have HL := Lib.hid hL
     clear hO hA h7 hbl7 hL
     go_wp2_with fail
     clear c2
     try simp only [Int.lt_irrefl, decide_false]
     go_loopw [7, 89] (fun s7 s89 wx => ∃ (i : Nat) (fv' : Value), i ≤ A.final.length ∧ s89 = .int .i64 i ∧ s7 = .bool (decide (uBg M N k ∨ A.start ∈ A.final.take i)) ∧ OutAt wx bO bO (s0 + 1) s0 (uFl M N k ++ uFin A d i) L fv' av' ∧ Blk wx bA #[.int .i64 M.states, .int .i64 M.start, .slice fa M.final.length fc, .slice aa M.arcs.length ac, .int .i64 N.states, .int .i64 N.start, .slice fb N.final.length fd, .slice ab N.arcs.length ad] 25 ∧ Blk wx wo.heap.size #[.int .i64 A.states, .int .i64 A.start, .slice xa A.final.length xc, .slice ya A.arcs.length yc] 25 ∧ Below bO w2 wx) (fun _ s89 _ => A.final.length - (intOf s89).toNat)
     case atStart => exact ⟨0, fv, Nat.zero_le _, rfl, by simp, by simpa [uFin] using HR.out.1, HR.out.2.1, HR.out.2.2.1, HR.out.2.2.2⟩
     case round =>
      obtain ⟨i, fv', hin, rfl, hs7, hO, hA, h7, hbl7⟩ := hrel
      by_cases hil : i < A.final.length
      ·obtain ⟨b, hbd⟩ : ∃ b : Bool, decide (uBg M N k ∨ A.start ∈ A.final.take i) = b := ⟨_, rfl⟩
       rw [hbd] at hs7
       subst hs7
       obtain ⟨yb, yo, rfl, -, hyc⟩ := (HK.out.2.2.2.2.1 wr hbl7).1.nums (by omega)
       have x0 := hyc i hil
       have hfs := HK.out.2.2.2.2.2.1.final A.final[i] (List.getElem_mem hil)
       have hsucc := uFin_succ (d := d) hil
       have htk : A.final.take (i + 1) = A.final.take i ++ [A.final[i]] := by rw [List.take_add_one, List.getElem?_eq_getElem hil]; rfl
       obtain ⟨f, hf⟩ : ∃ f, A.final[i] = f := ⟨_, rfl⟩
       rw [hf] at x0 hfs hsucc htk
       unfold StateOk at hfs
       have e1 : IntKind.i64.wrap (f + d) = f + d := IntWalk.i64_in _ (by omega)
       have hul2 : (uFin A d i).length ≤ 4000 := by unfold uFin; rw [List.length_map, List.length_take]; omega
       have hll : (uFl M N k ++ uFin A d i).length ≤ 8000 := by rw [List.length_append]; omega
       obtain ⟨F, hF⟩ : ∃ F, uFl M N k ++ uFin A d i = F := ⟨_, rfl⟩
       have hsl : uFl M N k ++ uFin A d (i + 1) = F ++ [f + d] := by rw [hsucc, ← List.append_assoc, hF]
       rw [hF] at hO hll
       have Hs := Lib.hid (And.intro hsl (And.intro htk hbd))
       clear hsucc hf hfs hF hsl hyc htk hbd hul2
       have hbA : bO < wo.heap.size := hbM
       obtain ⟨xfa, xfc, rfl, -, -⟩ := RowAt.of_own hO.fin
       have y2 : wr.cell? ⟨bO, 2, none⟩ = some (.slice xfa F.length xfc) := hO.blk.cell 2
       have H8 := Lib.hid (And.intro hO (And.intro hA (And.intro h7 hbl7)))
       have hbwr : bO < wr.heap.size := hO.blk.lt
       clear hO hA h7 hbl7
       go_wp2_with (at_builtin; refine wpList_append_own_at _ rfl _ _ 22 rfl bO 3 i0 (.int .i64 0) 1 8 Tryz.underlying22 hi hz0 hz1 hz2' rfl (by decide) _ _ _ rfl (World.ownsRow.alloc H8.out.1.fin _) ⟨wr.heap.size, 0, none⟩ 1 1 [.int .i64 (f + d)] rfl rfl (by exact cell_one_new _ _ _) (by simp [Value.oneCell']) (by unfold maxLen; omega) (by omega) (by simp; omega) ?_)
       intro v9 w9 hown9 hgrow9 _ _
       obtain ⟨va9, vc9, rfl, -, -⟩ := RowAt.of_own hown9
       obtain ⟨s1, s2, s3, s4⟩ := H8.out.1.fin_step (Nat.le_refl _) (x := f + d) ((Below.refl _ _).alloc (Nat.le_refl _) _) hown9 hgrow9
       have y3' : w9.cell? ⟨bO, 2, none⟩ = some (.slice xfa F.length xfc) := s2.cell 2
       have f3 := s2.frozen 2
       have hsA := s3 _ _ _ (by omega) (H8.out.2.1.own_ne H8.out.1.fin (by decide)) H8.out.2.1
       have hs7 := s3 _ _ _ (by omega) (H8.out.2.2.1.own_ne H8.out.1.fin (by decide)) H8.out.2.2.1
       have hbl9 := H8.out.2.2.2.trans (s4.mono (Nat.le_refl _))
       clear y2 x0 hown9 hgrow9 s2 s3 s4
       go_upto_region 22 with (fail)
       generalize hW10 : w9.setCell ⟨bO, 2, none⟩ _ = W10 at s1 hsA hs7 hbl9 ⊢
       clear hW10 y3' f3
       have u1 : W10.cell? ⟨wo.heap.size, 1, none⟩ = some (.int .i64 A.start) := hs7.cell 1
       have H10 := Lib.hid (And.intro s1 (And.intro hsA (And.intro hs7 hbl9)))
       clear s1 hsA hs7 hbl9
       cases b with
       | true =>
        have Hb := Lib.hid (of_decide_eq_true Hs.out.2.2)
        go_wp2_with fail
        exact ⟨⟨i + 1, _, by omega, by go_num, congrArg Value.bool (decide_eq_true (Hb.out.imp id (fun h => by rw [Hs.out.2.1]; exact List.mem_append_left _ h))).symm, by rw [Hs.out.1]; exact H10.out.1, H10.out.2.1, H10.out.2.2.1, H10.out.2.2.2⟩, by simp [intOf]; omega⟩
       | false =>
        have Hb := Lib.hid (of_decide_eq_false Hs.out.2.2)
        by_cases hst : f = A.start
        ·have d1 : (f == A.start) = true := by simp [hst]
         have Hst := Lib.hid hst
         clear hst
         go_wp2_with fail
         exact ⟨⟨i + 1, _, by omega, by go_num, congrArg Value.bool (decide_eq_true (.inr (by rw [Hs.out.2.1, Hst.out]; simp))).symm, by rw [Hs.out.1]; exact H10.out.1, H10.out.2.1, H10.out.2.2.1, H10.out.2.2.2⟩, by simp [intOf]; omega⟩
        ·have d1 : (f == A.start) = false := by simp [hst]
         have Hst := Lib.hid hst
         clear hst
         go_wp2_with fail
         exact ⟨⟨i + 1, _, by omega, by go_num, congrArg Value.bool (decide_eq_false (fun h => by
          rcases h with h | h
          ·exact Hb.out (.inl h)
          ·rw [Hs.out.2.1] at h
           rcases List.mem_append.1 h with h | h
           ·exact Hb.out (.inr h)
           ·exact Hst.out (List.mem_singleton.1 h).symm)).symm, by rw [Hs.out.1]; exact H10.out.1, H10.out.2.1, H10.out.2.2.1, H10.out.2.2.2⟩, by simp [intOf]; omega⟩
      ·obtain rfl : i = A.final.length := by omega
       subst hs7
       have c0 : wr.cell? ⟨wo.heap.size, 0, none⟩ = some (.int .i64 A.states) := h7.cell 0
       have e1 : IntKind.i64.wrap (d + A.states) = d + A.states := IntWalk.i64_in _ (by omega)
       have HZ := Lib.hid (And.intro hO (And.intro hA hbl7))
       clear hO hA h7 hbl7
       go_wp2_with fail
       obtain ⟨k1, k2, k3, k4, -, -, -⟩ := HK.out
       exact ⟨⟨k + 1, fv', av', by omega, by go_num, congrArg Value.bool (decide_eq_decide.2 (by rw [k3, List.take_length])), by rw [k4], by rw [k1, k2, HL.out]; exact HZ.out.1, HZ.out.2.1, HZ.out.2.2⟩, by simp [intOf]; omega⟩
  ·obtain rfl : k = 2 := by omega
   obtain ⟨wi, rfl⟩ : ∃ wi : World, wi = wr := ⟨_, rfl⟩
   have hLl : (uAl M N 2).length ≤ 80000 := by
    have h1 := uArcs_len M 0 (M.states + N.states) M.arcs.length
    have h2 := uArcs_len N M.states (M.states + N.states) N.arcs.length
    have h3 := (hlenU M HV.out.1).1
    have h4 := (hlenU N HV.out.2).1
    simp only [uAl, List.length_append]; omega
   have hFl : (uFl M N 2).length ≤ 8000 := by
    have h3 := (hlenU M HV.out.1).2
    have h4 := (hlenU N HV.out.2).2
    simp only [uFl, uFin, List.length_append, List.length_map, List.take_length]; omega
   obtain ⟨L, hL⟩ : ∃ L, uAl M N 2 = L := ⟨_, rfl⟩
   obtain ⟨F, hF⟩ : ∃ F, uFl M N 2 = F := ⟨_, rfl⟩
   rw [hL, hF] at hO
   rw [hL] at hLl
   rw [hF] at hFl
   have hLL := Lib.hid hL
   have hFF := Lib.hid hF
   clear hL hF hlenU
   have hbl := hb
   by_cases hbg : uBg M N 2
   case neg =>
    rw [decide_eq_false hbg]
    have Hbg := Lib.hid hbg
    clear hbg hb
    obtain ⟨F1, hF1⟩ : ∃ F1 : List Int, F = F1 := ⟨_, rfl⟩
    have hF1l : F1.length ≤ 8001 := by rw [← hF1]; first | omega | (simp; omega)
    have hUn : ∀ S, ArcsOf L S → UnionM M N ⟨s0 + 1, s0, F1, S⟩ := fun S hS => by
     have h := union_final HV.out.1 HV.out.2 (S := S) (by rw [hLL.out]; exact hS)
     rw [hFF.out, ← Hs0.out.1] at h
     rw [← hF1]
     rw [if_neg Hbg.out, List.append_nil] at h; exact h
    have HUn := Lib.hid hUn
    rw [hF1] at hO
    clear hUn hF1
    obtain ⟨yfa, yfc, rfl, -, -⟩ := RowAt.of_own hO.fin
    obtain ⟨ava, avc, rfl, -, -⟩ := RowAt.of_own hO.arc
    have o0 : wi.cell? ⟨bO, 0, none⟩ = some (.int .i64 (s0 + 1)) := hO.blk.cell 0
    have o1 : wi.cell? ⟨bO, 1, none⟩ = some (.int .i64 s0) := hO.blk.cell 1
    have o2 : wi.cell? ⟨bO, 2, none⟩ = some (.slice yfa F1.length yfc) := hO.blk.cell 2
    have o3 : wi.cell? ⟨bO, 3, none⟩ = some (.slice ava L.length avc) := hO.blk.cell 3
    have hbW : Below (b0 + 3) W0 wi := Hb2.out.trans (hbl.mono hz2)
    obtain ⟨-, -, hmR⟩ := HM.out wi hbW
    have hlO := hO.blk.lt
    have HQ := Lib.hid (And.intro hO (And.intro hmR (And.intro hbW hlO)))
    clear hO hA hbl hmR hbW hlO
    go_wp2_with fail
    refine (made_any (s0 + 1) s0 yfa F1.length yfc L (.slice ava L.length avc) bO wi (by omega) HQ.out.1.arc).mono ?_
    clear o0 o1 o2 o3
    rintro e w5 ⟨S, hS, hc5, hres⟩
    have hR5 := HQ.out.2.1.chg hc5 (fun h => by have := (HQ.out.1.arc.lt _ h).1; omega)
    have hF5 := own_chg HQ.out.1.fin hc5 (fun g e h => by
     rcases own_ne HQ.out.1.fin HQ.out.1.arc (by decide) with q | q
     ·rw [q] at e; cases e
     ·exact q (e.trans h.symm))
    have hbF : Below b0 w w5 := (HW.out.2.1.trans (HQ.out.2.2.1.mono (by omega))).trans (hc5.below (fun k h => by have := (HQ.out.1.arc.lt _ h).1; omega) (by have := HQ.out.2.2.2; omega))
    have hwb := HW.out.2.2.2
    have z0 : w5.cell? ⟨bR, 0, none⟩ = some (.int .i64 0) := hR5.cell 0
    have z1 : w5.cell? ⟨bR, 1, none⟩ = some (.int .i64 0) := hR5.cell 1
    have z2 : w5.cell? ⟨bR, 2, none⟩ = some (.slice none 0 0) := hR5.cell 2
    have z3 : w5.cell? ⟨bR, 3, none⟩ = some (.slice none 0 0) := hR5.cell 3
    have fz : ∀ j, w5.frozen? ⟨bR, j, none⟩ = false := fun j => hR5.frozen j
    have HU := Lib.hid (And.intro (HUn.out S hS) (And.intro hR5 (And.intro hF5 (And.intro hbF hwb))))
    clear hS hc5 hR5 hF5 hbF hwb
    rcases hres with ⟨hbig, rfl⟩ | ⟨hbig, aS, cS, rfl, hrS⟩
    ·have Hbig := Lib.hid hbig
     clear hbig
     go_wp2_with fail
     refine bodyPost_ret (v := .tuple #[.agg #[.int .i64 0, .int .i64 0, .slice none 0 0, .slice none 0 0], .int .i64 2]) (by simp [results, Tryz.results9, go_sem, z0, z1, z2, z3]) rfl ?_
     have hcR := fill_chg w5 bR (.int .i64 0) (.int .i64 0) (.slice none 0 0) (.slice none 0 0)
     refine ⟨_, zeroM, 2, rfl, zero_mach _ _, ?_, .inr ⟨HV.out.1, HV.out.2, _, HU.out.1, .inl ⟨Hbig.out, rfl, rfl⟩⟩⟩
     have hbF := HU.out.2.2.2.1
     have hwb := HU.out.2.2.2.2
     rw [hwb]
     exact hbF.trans (hcR.below (fun k hk => by omega) (by have := hbF.size; omega))
    ·have Hbig := Lib.hid hbig
     have hSl : S.length ≤ maxLen := by unfold MadeBig at hbig; unfold maxLen; omega
     have hcR := fill_chg w5 bR (.int .i64 (s0 + 1)) (.int .i64 s0) (.slice yfa F1.length yfc) (.slice aS S.length cS)
     have Hm := Lib.hid ((made_mach (st := s0 + 1) (s0 := s0) (cS := cS) HU.out.2.1 HU.out.2.2.1 hrS hSl (by unfold maxLen; omega)).2 _ hcR)
     have HcR := Lib.hid hcR
     clear hbig hSl hcR hrS
     go_wp2_with fail
     refine bodyPost_ret (v := .tuple #[.agg #[.int .i64 (s0 + 1), .int .i64 s0, .slice yfa F1.length yfc, .slice aS S.length cS], .int .i64 0]) (by simp [results, Tryz.results9, go_sem, z0, z1, z2, z3]) rfl ?_
     refine ⟨_, _, 0, rfl, Hm.out, ?_, .inr ⟨HV.out.1, HV.out.2, _, HU.out.1, .inr ⟨Hbig.out, rfl, rfl⟩⟩⟩
     have hbF := HU.out.2.2.2.1
     have hwb := HU.out.2.2.2.2
     rw [hwb]
     exact hbF.trans (HcR.out.below (fun k hk => by omega) (by have := hbF.size; omega))
   rw [decide_eq_true hbg]
   have Hbg := Lib.hid hbg
   clear hbg hb
   obtain ⟨xfa, xfc, rfl, -, -⟩ := RowAt.of_own hO.fin
   have y2 : wi.cell? ⟨bO, 2, none⟩ = some (.slice xfa F.length xfc) := hO.blk.cell 2
   have y1 : wi.cell? ⟨bO, 1, none⟩ = some (.int .i64 s0) := hO.blk.cell 1
   have H8 := Lib.hid (And.intro hO hbl)
   have hbwr : bO < wi.heap.size := hO.blk.lt
   clear hO hA hbl
   go_wp2_with (at_builtin; refine wpList_append_own_at _ rfl _ _ 22 rfl bO 3 i0 (.int .i64 0) 1 8 Tryz.underlying22 hi hz0 hz1 hz2' rfl (by decide) _ _ _ rfl (World.ownsRow.alloc H8.out.1.fin _) ⟨wi.heap.size, 0, none⟩ 1 1 [.int .i64 s0] rfl rfl (by exact cell_one_new _ _ _) (by simp [Value.oneCell']) (by unfold maxLen; omega) (by omega) (by simp; omega) ?_)
   intro v9 w9 hown9 hgrow9 _ _
   obtain ⟨va9, vc9, rfl, -, -⟩ := RowAt.of_own hown9
   obtain ⟨s1, s2, s3, s4⟩ := H8.out.1.fin_step (Nat.le_refl _) (x := s0) ((Below.refl _ _).alloc (Nat.le_refl _) _) hown9 hgrow9
   have y3' : w9.cell? ⟨bO, 2, none⟩ = some (.slice xfa F.length xfc) := s2.cell 2
   have f3 := s2.frozen 2
   have hbl10 := H8.out.2.trans (s4.mono (Nat.le_refl _))
   clear y1 y2 hown9 hgrow9 s2 s3 s4
   go_upto_region 28 with (fail)
   generalize hW10 : w9.setCell ⟨bO, 2, none⟩ _ = W10 at s1 hbl10 ⊢
   clear hW10 y3' f3
   obtain ⟨F1, hF1⟩ : ∃ F1 : List Int, F ++ [s0] = F1 := ⟨_, rfl⟩
   have hF1l : F1.length ≤ 8001 := by rw [← hF1]; first | omega | (simp; omega)
   have hUn : ∀ S, ArcsOf L S → UnionM M N ⟨s0 + 1, s0, F1, S⟩ := fun S hS => by
    have h := union_final HV.out.1 HV.out.2 (S := S) (by rw [hLL.out]; exact hS)
    rw [hFF.out, ← Hs0.out.1] at h
    rw [← hF1]
    rw [if_pos Hbg.out] at h; exact h
   have HUn := Lib.hid hUn
   rw [hF1] at s1
   have hF1e : F.length + 1 = F1.length := by rw [← hF1]; simp
   clear hUn hF1
   rw [hF1e] at s1
   obtain ⟨ava, avc, rfl, -, -⟩ := RowAt.of_own s1.arc
   have o0 : W10.cell? ⟨bO, 0, none⟩ = some (.int .i64 (s0 + 1)) := s1.blk.cell 0
   have o1 : W10.cell? ⟨bO, 1, none⟩ = some (.int .i64 s0) := s1.blk.cell 1
   have o2 : W10.cell? ⟨bO, 2, none⟩ = some (.slice va9 F1.length vc9) := s1.blk.cell 2
   have o3 : W10.cell? ⟨bO, 3, none⟩ = some (.slice ava L.length avc) := s1.blk.cell 3
   have hbW : Below (b0 + 3) W0 W10 := Hb2.out.trans (hbl10.mono hz2)
   obtain ⟨-, -, hmR⟩ := HM.out W10 hbW
   have hlO := s1.blk.lt
   have HQ := Lib.hid (And.intro s1 (And.intro hmR (And.intro hbW hlO)))
   clear s1 hbl10 hmR hbW hlO
   go_wp2_with fail
   refine (made_any (s0 + 1) s0 va9 F1.length vc9 L (.slice ava L.length avc) bO W10 (by omega) HQ.out.1.arc).mono ?_
   clear o0 o1 o2 o3
   rintro e w5 ⟨S, hS, hc5, hres⟩
   have hR5 := HQ.out.2.1.chg hc5 (fun h => by have := (HQ.out.1.arc.lt _ h).1; omega)
   have hF5 := own_chg HQ.out.1.fin hc5 (fun g e h => by
    rcases own_ne HQ.out.1.fin HQ.out.1.arc (by decide) with q | q
    ·rw [q] at e; cases e
    ·exact q (e.trans h.symm))
   have hbF : Below b0 w w5 := (HW.out.2.1.trans (HQ.out.2.2.1.mono (by omega))).trans (hc5.below (fun k h => by have := (HQ.out.1.arc.lt _ h).1; omega) (by have := HQ.out.2.2.2; omega))
   have hwb := HW.out.2.2.2
   have z0 : w5.cell? ⟨bR, 0, none⟩ = some (.int .i64 0) := hR5.cell 0
   have z1 : w5.cell? ⟨bR, 1, none⟩ = some (.int .i64 0) := hR5.cell 1
   have z2 : w5.cell? ⟨bR, 2, none⟩ = some (.slice none 0 0) := hR5.cell 2
   have z3 : w5.cell? ⟨bR, 3, none⟩ = some (.slice none 0 0) := hR5.cell 3
   have fz : ∀ j, w5.frozen? ⟨bR, j, none⟩ = false := fun j => hR5.frozen j
   have HU := Lib.hid (And.intro (HUn.out S hS) (And.intro hR5 (And.intro hF5 (And.intro hbF hwb))))
   clear hS hc5 hR5 hF5 hbF hwb
   rcases hres with ⟨hbig, rfl⟩ | ⟨hbig, aS, cS, rfl, hrS⟩
   ·have Hbig := Lib.hid hbig
    clear hbig
    go_wp2_with fail
    refine bodyPost_ret (v := .tuple #[.agg #[.int .i64 0, .int .i64 0, .slice none 0 0, .slice none 0 0], .int .i64 2]) (by simp [results, Tryz.results9, go_sem, z0, z1, z2, z3]) rfl ?_
    have hcR := fill_chg w5 bR (.int .i64 0) (.int .i64 0) (.slice none 0 0) (.slice none 0 0)
    refine ⟨_, zeroM, 2, rfl, zero_mach _ _, ?_, .inr ⟨HV.out.1, HV.out.2, _, HU.out.1, .inl ⟨Hbig.out, rfl, rfl⟩⟩⟩
    have hbF := HU.out.2.2.2.1
    have hwb := HU.out.2.2.2.2
    rw [hwb]
    exact hbF.trans (hcR.below (fun k hk => by omega) (by have := hbF.size; omega))
   ·have Hbig := Lib.hid hbig
    have hSl : S.length ≤ maxLen := by unfold MadeBig at hbig; unfold maxLen; omega
    have hcR := fill_chg w5 bR (.int .i64 (s0 + 1)) (.int .i64 s0) (.slice va9 F1.length vc9) (.slice aS S.length cS)
    have Hm := Lib.hid ((made_mach (st := s0 + 1) (s0 := s0) (cS := cS) HU.out.2.1 HU.out.2.2.1 hrS hSl (by unfold maxLen; omega)).2 _ hcR)
    have HcR := Lib.hid hcR
    clear hbig hSl hcR hrS
    go_wp2_with fail
    refine bodyPost_ret (v := .tuple #[.agg #[.int .i64 (s0 + 1), .int .i64 s0, .slice va9 F1.length vc9, .slice aS S.length cS], .int .i64 0]) (by simp [results, Tryz.results9, go_sem, z0, z1, z2, z3]) rfl ?_
    refine ⟨_, _, 0, rfl, Hm.out, ?_, .inr ⟨HV.out.1, HV.out.2, _, HU.out.1, .inr ⟨Hbig.out, rfl, rfl⟩⟩⟩
    have hbF := HU.out.2.2.2.1
    have hwb := HU.out.2.2.2.2
    rw [hwb]
    exact hbF.trans (HcR.out.below (fun k hk => by omega) (by have := hbF.size; omega))
end Go.Proofs.YtfihjpffjdnahaaGreatDoor
