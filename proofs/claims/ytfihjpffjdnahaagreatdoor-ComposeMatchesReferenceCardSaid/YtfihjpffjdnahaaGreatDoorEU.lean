/- Walk: gazetteerref14.Union (printed by mku.py). -/
import Derived.Test.YtfihjpffjdnahaaGreatDoorEO
import Derived.Deep.AppendLies
import Derived.BigRegion
namespace Go.Proofs.YtfihjpffjdnahaaGreatDoor
open Go.RowKit Classical
open Go.Shelf
attribute [local go_sem] undef_bool undef_bool'

theorem run_append_none (w : World) (base : Nat) (t ty e : TypeId) (i : TypeInfo) (size c : Nat) (ht : Tryz.prog.underlying t = some (.slice e)) (hi : Tryz.prog.info? e = some i)
  (v : Value) (n : Nat) (xs : List Value) (hown : w.ownsRow base e size v n xs) : (Builtin.append_ #[t, t] ty #[v, .slice none 0 c]).run Tryz.prog w = .ok v w := by
 rcases hown.2 with ⟨rfl, rfl⟩ | ⟨g, cap, cur, rfl, _, _, hnc, _⟩
 ·simp [Builtin.append_, run_underlying ht, sizeOf, typeInfo, hi, Builtin.lenOf, Builtin.firstCells]
 ·simp [Builtin.append_, run_underlying ht, sizeOf, typeInfo, hi, Builtin.lenOf, Builtin.firstCells, hnc, storeCells]
set_option maxRecDepth 100000 in
/-- append of a row of ints, the nil one too. -/
theorem wpList_append_ints {w : World} {ops : Array Oper} {rest : List Oper} {o : Oper} {a : Act} {Q : Exit → Act → World → Prop} (hgd : o.guard = none) (s x : Operand)
  (ho : o.op = .call { callee := .builtin .append, args := #[s, x], argTypes := #[22, 22] }) (base : Nat) (i : TypeInfo) (hi : Tryz.prog.info? 3 = some i) (hz : i.zero = some (.int .i64 0)) (hsize : i.size = 1) (hby : i.bytes = 8)
  (v : Value) (n : Nat) (xs : List Value) (hs : a.eval s = v) (hown : w.ownsRow base 3 1 v n xs) (fa : Option Addr) (m c : Nat) (ys : List Int) (hm : ys.length = m) (hx : a.eval x = .slice fa m c) {B : Nat} (hrow : RowAt w B fa (nums ys))
  (h63 : n + m ≤ maxLen) (hbytes : (n + m) * 8 ≤ 140737488355328) (hbase : base ≤ w.heap.size)
  (h : ∀ v' w', w'.ownsRow base 3 1 v' (n + m) (xs ++ nums ys) → w.grownBy w' v.ownBlock → wpList Tryz.prog ops Q rest (a.put o.dst v') w') : wpList Tryz.prog ops Q (o :: rest) a w := by
 have hnl : (nums ys).length = m * 1 := by simp [nums, hm]
 cases fa with
 | none =>
  have hm0 : m = 0 := by
   rcases Nat.eq_zero_or_pos m with h0 | h0
   ·exact h0
   ·obtain ⟨_, _, e, _⟩ := hrow (by omega)
    cases e
  subst hm0
  have hy : ys = [] := List.length_eq_zero_iff.1 hm
  subst hy
  refine wpList_plain hgd fun K hK => ?_
  have hrun := run_append_none w base 22 o.type 3 i 1 c Tryz.underlying22 hi v n xs hown
  unfold Oper.wp
  simp [execOp, ho, resolve, invoke, builtin, hs, hx, hrun, Result.andThen]
  exact hK _ _ (h v w (by simpa [nums] using hown) (World.grownBy.refl _ _))
 | some ad =>
  refine wpList_append_own_at _ hgd s x 22 ho base 3 i (.int .i64 0) 1 8 Tryz.underlying22 hi hz hsize hby rfl (by decide) v n xs hs hown ad m c (nums ys) hx hnl (fun j u hj => ?_) (fun u hu => ?_) h63 hbytes hbase (fun v' w' h1 h2 _ _ => h v' w' h1 h2)
  ·have hj' := (List.getElem?_eq_some_iff.1 hj).1
   obtain ⟨b, off, e, _, hc⟩ := hrow (by omega)
   injection e with e
   subst e
   unfold Addr.add
   split
   ·rename_i h0; subst h0; exact hc 0 u hj
   ·exact hc j u hj
  ·obtain ⟨z, _, rfl⟩ := List.mem_map.1 hu
   rfl

set_option maxRecDepth 100000 in
set_option maxHeartbeats 4000000 in
theorem RUnion_any (M N : Mach) (v vn : Value) (w : World) (hM : MachAt w w.heap.size v M) (hN : MachAt w w.heap.size vn N) :
  Calls Tryz.prog 10 #[v, vn] w (UniPost M N w) := by
 have hMA := hM
 have hNA := hN
 obtain ⟨fa, fc, aa, ac, rfl, hfl, hal, hf, ha⟩ := hM
 obtain ⟨fb, fd, ab, ad, rfl, hfl2, hal2, hf2, ha2⟩ := hN
 obtain ⟨W0, hW0⟩ : ∃ W0 : World, W0 = ((w.alloc (.cells #[.int .i64 M.states, .int .i64 M.start, .slice fa M.final.length fc, .slice aa M.arcs.length ac] 25)).alloc (.cells #[.int .i64 N.states, .int .i64 N.start, .slice fb N.final.length fd, .slice ab N.arcs.length ad] 25)).alloc (.cells #[.int .i64 0, .int .i64 0, .slice none 0 0, .slice none 0 0] 25) := ⟨_, rfl⟩
 obtain ⟨b0, hb0⟩ : ∃ b, w.heap.size = b := ⟨_, rfl⟩
 have hw0 : Below b0 w W0 := by rw [hW0, ← hb0]; exact (((Below.refl _ _).alloc (Nat.le_refl _) _).alloc (by simp) _).alloc (by simp; omega) _
 have hsz0 : W0.heap.size = b0 + 3 := by rw [hW0, ← hb0]; simp
 have kM : Blk W0 b0 #[.int .i64 M.states, .int .i64 M.start, .slice fa M.final.length fc, .slice aa M.arcs.length ac] 25 := by rw [hW0, ← hb0]; exact ((Blk.new _ _ _).alloc _).alloc _
 have kN : Blk W0 (b0 + 1) #[.int .i64 N.states, .int .i64 N.start, .slice fb N.final.length fd, .slice ab N.arcs.length ad] 25 := by
  rw [hW0, ← hb0]; have := (Blk.new (w.alloc (.cells #[.int .i64 M.states, .int .i64 M.start, .slice fa M.final.length fc, .slice aa M.arcs.length ac] 25)) #[.int .i64 N.states, .int .i64 N.start, .slice fb N.final.length fd, .slice ab N.arcs.length ad] 25).alloc (.cells #[.int .i64 0, .int .i64 0, .slice none 0 0, .slice none 0 0] 25); simpa using this
 have kR : Blk W0 (b0 + 2) #[.int .i64 0, .int .i64 0, .slice none 0 0, .slice none 0 0] 25 := by
  rw [hW0, ← hb0]; have := Blk.new ((w.alloc (.cells #[.int .i64 M.states, .int .i64 M.start, .slice fa M.final.length fc, .slice aa M.arcs.length ac] 25)).alloc (.cells #[.int .i64 N.states, .int .i64 N.start, .slice fb N.final.length fd, .slice ab N.arcs.length ad] 25)) #[.int .i64 0, .int .i64 0, .slice none 0 0, .slice none 0 0] 25; simpa using this
 -- what lay, and the two boxes, in every world that only grew
 have HM := Lib.hid (fun (wr : World) (hbw : Below (b0 + 3) W0 wr) => And.intro (kM.below hbw (by omega)) (And.intro (kN.below hbw (by omega)) (kR.below hbw (by omega))))
 have HA := Lib.hid (fun (wr : World) (hbw : Below (b0 + 3) W0 wr) => (show MachAt wr wr.heap.size (.agg #[.int .i64 M.states, .int .i64 M.start, .slice fa M.final.length fc, .slice aa M.arcs.length ac]) M ∧ MachAt wr wr.heap.size (.agg #[.int .i64 N.states, .int .i64 N.start, .slice fb N.final.length fd, .slice ab N.arcs.length ad]) N from by
  have h1 : Below w.heap.size w wr := by rw [hb0]; exact hw0.trans (hbw.mono (by omega))
  exact ⟨(hMA.below h1 (Nat.le_refl _)).more h1.size, (hNA.below h1 (Nat.le_refl _)).more h1.size⟩))
 have HW := Lib.hid (And.intro hW0 (And.intro hw0 (And.intro hsz0 hb0)))
 have Hrows := Lib.hid (And.intro hf (And.intro hf2 (And.intro ha ha2)))
 clear hW0 hw0 hsz0 kM kN kR hMA hNA hf hf2 ha ha2
 go_enter Tryz.func10, Tryz.ntmps10
 go_upto_region 1 with (fail)

 clear hb0
 have hW := HW.out.1
 rw [← hW]
 clear hW
 obtain ⟨bR, hbR⟩ : ∃ b, b = b0 + 1 + 1 := ⟨_, rfl⟩
 obtain ⟨bN, hbN⟩ : ∃ b, b = b0 + 1 := ⟨_, rfl⟩
 rw [← hbR, ← hbN]
 have HM := Lib.hid (fun (wr : World) (hbw : Below (b0 + 3) W0 wr) => (show Blk wr b0 #[.int .i64 M.states, .int .i64 M.start, .slice fa M.final.length fc, .slice aa M.arcs.length ac] 25 ∧ Blk wr bN #[.int .i64 N.states, .int .i64 N.start, .slice fb N.final.length fd, .slice ab N.arcs.length ad] 25 ∧ Blk wr bR #[.int .i64 0, .int .i64 0, .slice none 0 0, .slice none 0 0] 25 from by rw [hbR, hbN]; exact HM.out wr hbw))
 have hbl : b0 < bN ∧ bN < bR ∧ bR < b0 + 3 := by omega
 clear hbR hbN
 obtain ⟨hmM, hmN, hmR⟩ := HM.out W0 (Below.refl _ _)
 have m0 : W0.cell? ⟨b0, 0, none⟩ = some (.int .i64 M.states) := hmM.cell 0
 have m1 : W0.cell? ⟨b0, 1, none⟩ = some (.int .i64 M.start) := hmM.cell 1
 have m2 : W0.cell? ⟨b0, 2, none⟩ = some (.slice fa M.final.length fc) := hmM.cell 2
 have m3 : W0.cell? ⟨b0, 3, none⟩ = some (.slice aa M.arcs.length ac) := hmM.cell 3
 clear hmM hmN hmR
 go_wp2_with fail
 refine (Valid12_any M _ W0 (HA.out W0 (Below.refl _ _)).1).mono ?_
 clear m0 m1 m2 m3
 rintro e w1 ⟨rfl, hb1⟩
 rw [HW.out.2.2.1] at hb1
 by_cases hv : ValidM M
 case neg =>
  rw [decide_eq_false hv]
  obtain ⟨-, -, hmR⟩ := HM.out w1 hb1
  have z0 : w1.cell? ⟨bR, 0, none⟩ = some (.int .i64 0) := hmR.cell 0
  have z1 : w1.cell? ⟨bR, 1, none⟩ = some (.int .i64 0) := hmR.cell 1
  have z2 : w1.cell? ⟨bR, 2, none⟩ = some (.slice none 0 0) := hmR.cell 2
  have z3 : w1.cell? ⟨bR, 3, none⟩ = some (.slice none 0 0) := hmR.cell 3
  have fz : ∀ j, w1.frozen? ⟨bR, j, none⟩ = false := fun j => hmR.frozen j
  have hbF : Below b0 w w1 := HW.out.2.1.trans (hb1.mono (by omega))
  have hbs := (((hbF.setCell (p := ⟨bR, 0, none⟩) (by simp; omega) (.int .i64 0)).setCell (p := ⟨bR, 1, none⟩) (by simp; omega) (.int .i64 0)).setCell (p := ⟨bR, 2, none⟩) (by simp; omega) (.slice none 0 0)).setCell (p := ⟨bR, 3, none⟩) (by simp; omega) (.slice none 0 0)
  rw [← HW.out.2.2.2] at hbs
  have Hbs := Lib.hid hbs
  have Hno := Lib.hid (show ¬ (ValidM M ∧ ValidM N) from fun h => hv h.1)
  clear hmR hbF hbs
  go_wp2_with fail
  refine bodyPost_ret (v := .tuple #[.agg #[.int .i64 0, .int .i64 0, .slice none 0 0, .slice none 0 0], .int .i64 1]) (by simp [results, Tryz.results10, go_sem, z0, z1, z2, z3]) rfl ?_
  exact ⟨_, zeroM, 1, rfl, zero_mach _ _, Hbs.out, .inl ⟨Hno.out, rfl, rfl⟩⟩
 rw [decide_eq_true hv]
 obtain ⟨hmM, hmN, hmR⟩ := HM.out w1 hb1
 have n0 : w1.cell? ⟨bN, 0, none⟩ = some (.int .i64 N.states) := hmN.cell 0
 have n1 : w1.cell? ⟨bN, 1, none⟩ = some (.int .i64 N.start) := hmN.cell 1
 have n2 : w1.cell? ⟨bN, 2, none⟩ = some (.slice fb N.final.length fd) := hmN.cell 2
 have n3 : w1.cell? ⟨bN, 3, none⟩ = some (.slice ab N.arcs.length ad) := hmN.cell 3
 clear hmM hmN hmR
 go_wp2_with fail
 refine (Valid12_any N _ w1 (HA.out w1 hb1).2).mono ?_
 clear n0 n1 n2 n3
 rintro e w2 ⟨rfl, hb2⟩
 by_cases hvN : ValidM N
 case neg =>
  rw [decide_eq_false hvN]
  have hb2' : Below (b0 + 3) W0 w2 := hb1.trans (hb2.mono (by have := hb1.size; have := HW.out.2.2.1; omega))
  obtain ⟨-, -, hmR⟩ := HM.out w2 hb2'
  have z0 : w2.cell? ⟨bR, 0, none⟩ = some (.int .i64 0) := hmR.cell 0
  have z1 : w2.cell? ⟨bR, 1, none⟩ = some (.int .i64 0) := hmR.cell 1
  have z2 : w2.cell? ⟨bR, 2, none⟩ = some (.slice none 0 0) := hmR.cell 2
  have z3 : w2.cell? ⟨bR, 3, none⟩ = some (.slice none 0 0) := hmR.cell 3
  have fz : ∀ j, w2.frozen? ⟨bR, j, none⟩ = false := fun j => hmR.frozen j
  have hbF : Below b0 w w2 := HW.out.2.1.trans (hb2'.mono (by omega))
  have hbs := (((hbF.setCell (p := ⟨bR, 0, none⟩) (by simp; omega) (.int .i64 0)).setCell (p := ⟨bR, 1, none⟩) (by simp; omega) (.int .i64 0)).setCell (p := ⟨bR, 2, none⟩) (by simp; omega) (.slice none 0 0)).setCell (p := ⟨bR, 3, none⟩) (by simp; omega) (.slice none 0 0)
  rw [← HW.out.2.2.2] at hbs
  have Hbs := Lib.hid hbs
  have Hno := Lib.hid (show ¬ (ValidM M ∧ ValidM N) from fun h => hvN h.2)
  clear hmR hbF hbs
  go_wp2_with fail
  refine bodyPost_ret (v := .tuple #[.agg #[.int .i64 0, .int .i64 0, .slice none 0 0, .slice none 0 0], .int .i64 1]) (by simp [results, Tryz.results10, go_sem, z0, z1, z2, z3]) rfl ?_
  exact ⟨_, zeroM, 1, rfl, zero_mach _ _, Hbs.out, .inl ⟨Hno.out, rfl, rfl⟩⟩
 rw [decide_eq_true hvN]
 have hb2' : Below (b0 + 3) W0 w2 := hb1.trans (hb2.mono (by have := hb1.size; have := HW.out.2.2.1; omega))
 have HV := Lib.hid (And.intro hv hvN)
 have m1 := hv.one
 have m4 := hv.most
 have n1 := hvN.one
 have n4 := hvN.most
 have hz2 : b0 + 3 ≤ w2.heap.size := by have := hb2'.size; have := HW.out.2.2.1; omega
 have Hb2 := Lib.hid hb2'
 clear hb1 hb2 hb2' hv hvN
 obtain ⟨hmM, hmN, -⟩ := HM.out w2 Hb2.out
 have m0 : w2.cell? ⟨b0, 0, none⟩ = some (.int .i64 M.states) := hmM.cell 0
 have n0 : w2.cell? ⟨bN, 0, none⟩ = some (.int .i64 N.states) := hmN.cell 0
 have e1 : IntKind.i64.wrap (M.states + N.states) = M.states + N.states := IntWalk.i64_in _ (by omega)
 have e2 : IntKind.i64.wrap (M.states + N.states + 1) = M.states + N.states + 1 := IntWalk.i64_in _ (by omega)
 have m2 : w2.cell? ⟨b0, 2, none⟩ = some (.slice fa M.final.length fc) := hmM.cell 2
 obtain ⟨n0, hn0⟩ : ∃ n0, w2.heap.size = n0 := ⟨_, rfl⟩
 rw [hn0] at hz2
 have hRow : ∀ wr, Below n0 w2 wr → (RowAt wr wr.heap.size fa (nums M.final) ∧ RowAt wr wr.heap.size aa (flat M.arcs)) ∧ (RowAt wr wr.heap.size fb (nums N.final) ∧ RowAt wr wr.heap.size ab (flat N.arcs)) := fun wr hb => by
  have h1 : Below w.heap.size w wr := by rw [HW.out.2.2.2]; exact HW.out.2.1.trans ((Hb2.out.trans (hb.mono hz2)).mono (by omega))
  exact ⟨⟨(Hrows.out.1.below h1 (Nat.le_refl _)).more h1.size, (Hrows.out.2.2.1.below h1 (Nat.le_refl _)).more h1.size⟩, (Hrows.out.2.1.below h1 (Nat.le_refl _)).more h1.size, (Hrows.out.2.2.2.below h1 (Nat.le_refl _)).more h1.size⟩
 have HRow := Lib.hid hRow
 obtain ⟨ii, hii, hii0, hii1, hii2⟩ := info_parts info_int
 obtain ⟨ja, hja1, hja2, hja3, hja4⟩ := info_parts info_arc
 have hal4 := HV.out.1.arcsLen
 have hal4' := HV.out.2.arcsLen
 have hfl4 := final_most HV.out.1
 have hfl4' := final_most HV.out.2
 have hrf := (hRow w2 (Below.refl _ _)).1.1
 have Hn0 := Lib.hid hn0
 clear hmM hmN hRow hn0
 go_upto_region 4 with (fail)
 obtain ⟨s0, hs0⟩ : ∃ s0, s0 = M.states + N.states := ⟨_, rfl⟩
 rw [← hs0] at e2 ⊢
 have Hs0 := Lib.hid hs0
 have hs01 : 2 ≤ s0 ∧ s0 ≤ 8000 := by omega
 have hne2 : (w2.alloc (.cells #[] 3)).cell? ⟨b0, 2, none⟩ = some (.slice fa M.final.length fc) := (((Below.refl w2.heap.size w2).alloc (Nat.le_refl _) (.cells #[] 3)).cell (p := ⟨b0, 2, none⟩) (by show b0 < w2.heap.size; have := Hn0.out; omega)).trans m2
 clear hs0 e1
 go_wp2_with (at_builtin; refine wpList_append_ints rfl _ _ rfl n0 ii hii hii0 hii1 hii2 _ 0 [] rfl (by rw [← Hn0.out]; exact World.ownsRow_lit w2 #[] 0 (Nat.le_refl _) (by unfold maxLen; omega) rfl) fa M.final.length fc M.final rfl rfl (hrf.below ((Below.refl _ _).alloc (Nat.le_refl _) (.cells #[] 3)) (Nat.le_refl _)) (by unfold maxLen; omega) (by omega) (by rw [← Hn0.out]; simp) ?_)
 intro v4 w4 hown4 hgrow4
 have hb4 : Below n0 w2 w4 := by
  rw [← Hn0.out]
  exact (((Below.refl _ _).alloc (Nat.le_refl _) (.cells #[] 3))).grown hgrow4 (by simp) (fun j hj => by simp [Value.ownBlock] at hj; omega)
 have H4 := Lib.hid (And.intro hown4 hb4)
 obtain ⟨va4, vc4, rfl, -, -⟩ := RowAt.of_own hown4
 clear hown4 hgrow4 hb4 hrf hne2 m2 m0
 go_upto_region 5 with (fail)
 generalize hW5 : (w4.alloc _) = W5
 obtain ⟨bO, hbO⟩ : ∃ b, w4.heap.size = b := ⟨_, rfl⟩
 have h45 : Below w4.heap.size w4 W5 := by rw [← hW5]; exact (Below.refl _ _).alloc (Nat.le_refl _) _
 have kO : Blk W5 bO #[.int .i64 (s0 + 1), .int .i64 s0, .slice va4 M.final.length vc4, .slice none 0 0] 25 := by rw [← hW5, ← hbO]; exact Blk.new _ _ _
 have hnO : n0 ≤ bO := by have := H4.out.2.size; have := Hn0.out; omega
 have hF0 : uFin M 0 M.final.length = M.final := by simp [uFin]
 obtain ⟨F, hF⟩ : ∃ F, uFin M 0 M.final.length = F := ⟨_, rfl⟩
 have hFl : F.length = M.final.length := by rw [← hF, hF0]
 have hFe : F = M.final := by rw [← hF, hF0]
 have hR5 : RS W5 n0 bO (s0 + 1) s0 F [] (.slice va4 M.final.length vc4) (.slice none 0 0) := ⟨⟨kO, by rw [hFe]; exact own_below H4.out.1 h45, World.ownsRow_nil _ _ _ _⟩, World.ownsRow_nil _ _ _ _, hnO⟩
 have H5 := Lib.hid (And.intro hR5 (H4.out.2.trans (h45.mono (by rw [hbO]; exact hnO))))
 have HF := Lib.hid (And.intro hF hFl)
 rw [hbO]
 clear hW5 hbO h45 kO hF0 hF hFl hFe hR5
 go_wp2_with fail
 go_loopw [8, 9] (fun av s9 wx => ∃ k : Nat, k ≤ M.arcs.length ∧ s9 = .int .i64 k ∧ RS wx n0 bO (s0 + 1) s0 F (uArcs M 0 s0 k) (.slice va4 M.final.length vc4) av ∧ Below n0 w2 wx) (fun _ s9 _ => M.arcs.length - (intOf s9).toNat)
 case atStart => exact ⟨0, Nat.zero_le _, rfl, H5.out.1, H5.out.2⟩
 case round =>
  obtain ⟨k, hk, rfl, hR, hb⟩ := hrel
  obtain ⟨hmM, hmN, -⟩ := HM.out wr (Hb2.out.trans (hb.mono hz2))
  by_cases hkl : k < M.arcs.length
  ·obtain ⟨lb, lo, rfl, -, hyc⟩ := (HRow.out wr hb).1.2.arcs (by omega)
   obtain ⟨y0, y1, y2, y3⟩ := hyc k hkl
   have hsu := uArcs_succ (A := M) (d := 0) (s := s0) hkl
   have hle := uArcs_len M 0 s0 k
   obtain ⟨x, hx⟩ : ∃ x, M.arcs[k] = x := ⟨_, rfl⟩
   obtain ⟨AL, hAL⟩ : ∃ AL, uArcs M 0 s0 k = AL := ⟨_, rfl⟩
   rw [hx] at y0 y1 y2 y3 hsu
   rw [hAL] at hR hsu hle
   have q3 : wr.cell? ⟨b0, 3, none⟩ = some (.slice (some ⟨lb, lo, none⟩) M.arcs.length ac) := hmM.cell 3
   have Hsu := Lib.hid hsu
   have HR := Lib.hid (And.intro hR hb)
   obtain ⟨xa, xc, rfl, -, -⟩ := RowAt.of_own hR.2.1
   clear hyc hx hAL hsu hR hb hmM hmN
   go_upto_region 10 with (fail)
   generalize hW : (wr.alloc _) = W
   obtain ⟨ba, hba⟩ : ∃ b, wr.heap.size = b := ⟨_, rfl⟩
   have hbl : Below wr.heap.size wr W := by rw [← hW]; exact (Below.refl _ _).alloc (Nat.le_refl _) _
   have ka : Blk W ba #[.int .i64 x.frm, .int .i64 x.inp, .int .i64 x.out, .int .i64 x.to] 40 := by rw [← hW, ← hba]; exact Blk.new _ _ _
   have hav : some ba ≠ (Value.slice xa AL.length xc).ownBlock := fun e => by have := (HR.out.1.2.1.lt _ e.symm).2; omega
   have hltb : n0 ≤ wr.heap.size := by have := HR.out.1.1.blk.lt; omega
   have HK := Lib.hid (And.intro (HR.out.1.below hbl) (HR.out.2.trans (hbl.mono hltb)))
   have Ha := Lib.hid (And.intro ka hav)
   have x0 : W.cell? ⟨ba, 0, none⟩ = some (.int .i64 x.frm) := ka.cell 0
   have x1 : W.cell? ⟨ba, 1, none⟩ = some (.int .i64 x.inp) := ka.cell 1
   have x2 : W.cell? ⟨ba, 2, none⟩ = some (.int .i64 x.out) := ka.cell 2
   have x3 : W.cell? ⟨ba, 3, none⟩ = some (.int .i64 x.to) := ka.cell 3
   rw [hba]
   clear hW hba hbl ka hav y0 y1 y2 y3 q3 hltb
   have hK21 := HK.out.1.2.1
   go_wp2_with (at_builtin; refine wpList_append_own_at _ rfl _ _ 23 rfl n0 40 ja _ 4 32 Tryz.underlying23 hja1 hja2 hja3 hja4 rfl (by decide) _ _ _ rfl (hK21.alloc _) ⟨W.heap.size, 0, none⟩ 1 1 [.int .i64 x.frm, .int .i64 x.inp, .int .i64 x.out, .int .i64 x.to] rfl rfl (by exact cells_new _ _ _) (by simp [Value.oneCell']) (by unfold maxLen; omega) (by omega) (by have := HK.out.1.1.blk.lt; have := HK.out.1.2.2; simp; omega) ?_)
   intro v5 w5 hown hgrow _ _
   have h5 := HK.out.1.arc_app (x := x) hown hgrow
   have k5 := (Ha.out.1.alloc (.cells #[.int .i64 x.frm, .int .i64 x.inp, .int .i64 x.out, .int .i64 x.to] 40)).grown hgrow Ha.out.2
   have H6 := Lib.hid (And.intro h5.1 (HK.out.2.trans h5.2))
   obtain ⟨va5, vc5, rfl, -, -⟩ := RowAt.of_own hown
   obtain ⟨hmM, -, -⟩ := HM.out w5 (Hb2.out.trans ((HK.out.2.trans h5.2).mono hz2))
   have q1 : w5.cell? ⟨b0, 1, none⟩ = some (.int .i64 M.start) := hmM.cell 1
   have z0 : w5.cell? ⟨ba, 0, none⟩ = some (.int .i64 x.frm) := k5.cell 0
   have z1 : w5.cell? ⟨ba, 1, none⟩ = some (.int .i64 x.inp) := k5.cell 1
   have z2 : w5.cell? ⟨ba, 2, none⟩ = some (.int .i64 x.out) := k5.cell 2
   have z3 : w5.cell? ⟨ba, 3, none⟩ = some (.int .i64 x.to) := k5.cell 3
   have hx0 : (⟨x.frm + 0, x.inp, x.out, x.to + 0⟩ : Arc) = x := by simp
   clear hown hgrow h5 k5 hmM x0 x1 x2 x3 hK21
   by_cases hs : x.frm = M.start
   ·have d1 : (x.frm == M.start) = true := by simp [hs]
    have hsu : uArcs M 0 s0 (k + 1) = (AL ++ [x]) ++ [⟨s0, x.inp, x.out, x.to⟩] := by rw [Hsu.out]; unfold uOne; rw [if_pos hs, hx0]; simp
    have hl5 : (AL ++ [x]).length = AL.length + 1 := by simp
    have H6' : w5.ownsRow n0 40 4 (.slice va5 (AL.length + 1) vc5) (AL.length + 1) (flat (AL ++ [x])) := by have := H6.out.1.2.1; rwa [hl5] at this
    have Hsu2 := Lib.hid hsu
    clear hsu hs hx0
    go_wp2_with (at_builtin; refine wpList_append_own_at _ rfl _ _ 23 rfl n0 40 ja _ 4 32 Tryz.underlying23 hja1 hja2 hja3 hja4 rfl (by decide) _ _ _ rfl (H6'.alloc _) ⟨w5.heap.size, 0, none⟩ 1 1 [.int .i64 s0, .int .i64 x.inp, .int .i64 x.out, .int .i64 x.to] rfl rfl (by exact cells_new _ _ _) (by simp [Value.oneCell']) (by unfold maxLen; omega) (by omega) (by have := H6.out.1.1.blk.lt; have := H6.out.1.2.2; simp; omega) ?_)
    intro v7 w7 hown hgrow _ _
    have h7 := H6.out.1.arc_app (x := ⟨s0, x.inp, x.out, x.to⟩) (by rw [hl5]; exact hown) hgrow
    have H7 := Lib.hid (And.intro h7.1 (H6.out.2.trans h7.2))
    clear hown hgrow h7 H6' z0 z1 z2 z3 q1
    go_wp2_with fail
    exact ⟨⟨k + 1, by omega, by go_num, by rw [Hsu2.out]; exact H7.out.1, H7.out.2⟩, by simp [intOf]; omega⟩
   ·have d1 : (x.frm == M.start) = false := by simp [hs]
    have hsu : uArcs M 0 s0 (k + 1) = AL ++ [x] := by rw [Hsu.out]; unfold uOne; rw [if_neg hs, hx0]
    have Hsu2 := Lib.hid hsu
    clear hsu hs hx0
    go_wp2_with fail
    exact ⟨⟨k + 1, by omega, by go_num, by rw [Hsu2.out]; exact H6.out.1, H6.out.2⟩, by simp [intOf]; omega⟩
  ·obtain rfl : k = M.arcs.length := by omega
   have hle := uArcs_len M 0 s0 M.arcs.length
   obtain ⟨A1, hA1⟩ : ∃ A1, uArcs M 0 s0 M.arcs.length = A1 := ⟨_, rfl⟩
   rw [hA1] at hR hle
   have HA1 := Lib.hid hA1
   have q3 : wr.cell? ⟨b0, 3, none⟩ = some (.slice aa M.arcs.length ac) := hmM.cell 3
   have H6 := Lib.hid (And.intro hR hb)
   clear hR hb hmM hmN hA1 hk hkl
   obtain ⟨wL, rfl⟩ : ∃ wL : World, wL = wr := ⟨_, rfl⟩
   go_wp2_with fail
   clear q3
   go_loopw [8, 11] (fun av s9 wx => ∃ k : Nat, k ≤ N.arcs.length ∧ s9 = .int .i64 k ∧ RS wx n0 bO (s0 + 1) s0 F (A1 ++ uArcs N M.states s0 k) (.slice va4 M.final.length vc4) av ∧ Below n0 w2 wx) (fun _ s9 _ => N.arcs.length - (intOf s9).toNat)
   case atStart => exact ⟨0, Nat.zero_le _, rfl, by simpa [uArcs] using H6.out.1, H6.out.2⟩
   case round =>
    obtain ⟨k, hk, rfl, hR, hb⟩ := hrel
    obtain ⟨hmM, hmN, -⟩ := HM.out wr (Hb2.out.trans (hb.mono hz2))
    by_cases hkl : k < N.arcs.length
    ·obtain ⟨lb, lo, rfl, -, hyc⟩ := (HRow.out wr hb).2.2.arcs (by omega)
     obtain ⟨y0, y1, y2, y3⟩ := hyc k hkl
     have hsu := uArcs_succ (A := N) (d := M.states) (s := s0) hkl
     have hle2 := uArcs_len N M.states s0 k
     have hok := HV.out.2.arcs _ (List.getElem_mem hkl)
     obtain ⟨x, hx⟩ : ∃ x, N.arcs[k] = x := ⟨_, rfl⟩
     rw [hx] at y0 y1 y2 y3 hsu hok
     obtain ⟨hk1, hk2, -⟩ := hok
     unfold StateOk at hk1 hk2
     have e5 : IntKind.i64.wrap (x.to + M.states) = x.to + M.states := IntWalk.i64_in _ (by omega)
     have e6 : IntKind.i64.wrap (x.frm + M.states) = x.frm + M.states := IntWalk.i64_in _ (by omega)
     obtain ⟨AL, hAL⟩ : ∃ AL, A1 ++ uArcs N M.states s0 k = AL := ⟨_, rfl⟩
     have hsu2 : A1 ++ uArcs N M.states s0 (k + 1) = AL ++ uOne N M.states s0 x := by rw [hsu, ← List.append_assoc, hAL]
     have hlA : AL.length ≤ 80000 := by rw [← hAL, List.length_append]; omega
     rw [hAL] at hR
     have q3 : wr.cell? ⟨bN, 3, none⟩ = some (.slice (some ⟨lb, lo, none⟩) N.arcs.length ad) := hmN.cell 3
     have Hsu := Lib.hid hsu2
     have HR := Lib.hid (And.intro hR hb)
     obtain ⟨xa, xc, rfl, -, -⟩ := RowAt.of_own hR.2.1
     clear hyc hx hAL hsu hsu2 hR hb hmM hmN hle2
     go_upto_region 17 with (fail)
     generalize hW : (wr.alloc _) = W
     obtain ⟨ba, hba⟩ : ∃ b, wr.heap.size = b := ⟨_, rfl⟩
     have hbl : Below wr.heap.size wr W := by rw [← hW]; exact (Below.refl _ _).alloc (Nat.le_refl _) _
     have ka : Blk W ba #[.int .i64 x.frm, .int .i64 x.inp, .int .i64 x.out, .int .i64 x.to] 40 := by rw [← hW, ← hba]; exact Blk.new _ _ _
     have hav : some ba ≠ (Value.slice xa AL.length xc).ownBlock := fun e => by have := (HR.out.1.2.1.lt _ e.symm).2; omega
     have hltb : n0 ≤ wr.heap.size := by have := HR.out.1.1.blk.lt; omega
     have hbW := HR.out.2.trans (hbl.mono hltb)
     have HK := Lib.hid (And.intro (HR.out.1.below hbl) hbW)
     have Ha := Lib.hid (And.intro ka hav)
     obtain ⟨hmM, -, -⟩ := HM.out W (Hb2.out.trans (hbW.mono hz2))
     have q0 : W.cell? ⟨b0, 0, none⟩ = some (.int .i64 M.states) := hmM.cell 0
     have x0 : W.cell? ⟨ba, 0, none⟩ = some (.int .i64 x.frm) := ka.cell 0
     have x1 : W.cell? ⟨ba, 1, none⟩ = some (.int .i64 x.inp) := ka.cell 1
     have x2 : W.cell? ⟨ba, 2, none⟩ = some (.int .i64 x.out) := ka.cell 2
     have x3 : W.cell? ⟨ba, 3, none⟩ = some (.int .i64 x.to) := ka.cell 3
     have hK21 := HK.out.1.2.1
     rw [hba]
     clear hW hba hbl ka hav y0 y1 y2 y3 q3 hltb hbW hmM
     go_wp2_with (at_builtin; refine wpList_append_own_at _ rfl _ _ 23 rfl n0 40 ja _ 4 32 Tryz.underlying23 hja1 hja2 hja3 hja4 rfl (by decide) _ _ _ rfl (hK21.alloc _) ⟨W.heap.size, 0, none⟩ 1 1 [.int .i64 (x.frm + M.states), .int .i64 x.inp, .int .i64 x.out, .int .i64 (x.to + M.states)] rfl rfl (by exact cells_new _ _ _) (by simp [Value.oneCell']) (by unfold maxLen; omega) (by omega) (by have := HK.out.1.1.blk.lt; have := HK.out.1.2.2; simp; omega) ?_)
     intro v5 w5 hown hgrow _ _
     have h5 := HK.out.1.arc_app (x := ⟨x.frm + M.states, x.inp, x.out, x.to + M.states⟩) hown hgrow
     have k5 := (Ha.out.1.alloc (.cells #[.int .i64 (x.frm + M.states), .int .i64 x.inp, .int .i64 x.out, .int .i64 (x.to + M.states)] 40)).grown hgrow Ha.out.2
     have H6 := Lib.hid (And.intro h5.1 (HK.out.2.trans h5.2))
     obtain ⟨va5, vc5, rfl, -, -⟩ := RowAt.of_own hown
     obtain ⟨-, hmN, -⟩ := HM.out w5 (Hb2.out.trans ((HK.out.2.trans h5.2).mono hz2))
     have q1 : w5.cell? ⟨bN, 1, none⟩ = some (.int .i64 N.start) := hmN.cell 1
     have z0 : w5.cell? ⟨ba, 0, none⟩ = some (.int .i64 x.frm) := k5.cell 0
     have z1 : w5.cell? ⟨ba, 1, none⟩ = some (.int .i64 x.inp) := k5.cell 1
     have z2 : w5.cell? ⟨ba, 2, none⟩ = some (.int .i64 x.out) := k5.cell 2
     clear hown hgrow h5 k5 hmN x0 x1 x2 x3 hK21 q0 e5 e6
     by_cases hs : x.frm = N.start
     ·have d1 : (x.frm == N.start) = true := by simp [hs]
      have hsu : A1 ++ uArcs N M.states s0 (k + 1) = (AL ++ [⟨x.frm + M.states, x.inp, x.out, x.to + M.states⟩]) ++ [⟨s0, x.inp, x.out, x.to + M.states⟩] := by rw [Hsu.out]; unfold uOne; rw [if_pos hs]; simp
      have hl5 : (AL ++ [(⟨x.frm + M.states, x.inp, x.out, x.to + M.states⟩ : Arc)]).length = AL.length + 1 := by simp
      have H6' : w5.ownsRow n0 40 4 (.slice va5 (AL.length + 1) vc5) (AL.length + 1) (flat (AL ++ [⟨x.frm + M.states, x.inp, x.out, x.to + M.states⟩])) := by have := H6.out.1.2.1; rwa [hl5] at this
      have Hsu2 := Lib.hid hsu
      clear hsu hs
      go_wp2_with (at_builtin; refine wpList_append_own_at _ rfl _ _ 23 rfl n0 40 ja _ 4 32 Tryz.underlying23 hja1 hja2 hja3 hja4 rfl (by decide) _ _ _ rfl (H6'.alloc _) ⟨w5.heap.size, 0, none⟩ 1 1 [.int .i64 s0, .int .i64 x.inp, .int .i64 x.out, .int .i64 (x.to + M.states)] rfl rfl (by exact cells_new _ _ _) (by simp [Value.oneCell']) (by unfold maxLen; omega) (by omega) (by have := H6.out.1.1.blk.lt; have := H6.out.1.2.2; simp; omega) ?_)
      intro v7 w7 hown hgrow _ _
      have h7 := H6.out.1.arc_app (x := ⟨s0, x.inp, x.out, x.to + M.states⟩) (by rw [hl5]; exact hown) hgrow
      have H7 := Lib.hid (And.intro h7.1 (H6.out.2.trans h7.2))
      clear hown hgrow h7 H6' z0 z1 z2 q1
      go_wp2_with fail
      exact ⟨⟨k + 1, by omega, by go_num, by rw [Hsu2.out]; exact H7.out.1, H7.out.2⟩, by simp [intOf]; omega⟩
     ·have d1 : (x.frm == N.start) = false := by simp [hs]
      have hsu : A1 ++ uArcs N M.states s0 (k + 1) = AL ++ [⟨x.frm + M.states, x.inp, x.out, x.to + M.states⟩] := by rw [Hsu.out]; unfold uOne; rw [if_neg hs]
      have Hsu2 := Lib.hid hsu
      clear hsu hs
      go_wp2_with fail
      exact ⟨⟨k + 1, by omega, by go_num, by rw [Hsu2.out]; exact H6.out.1, H6.out.2⟩, by simp [intOf]; omega⟩
    ·obtain rfl : k = N.arcs.length := by omega
     have hle2 := uArcs_len N M.states s0 N.arcs.length
     obtain ⟨A2, hA2⟩ : ∃ A2, A1 ++ uArcs N M.states s0 N.arcs.length = A2 := ⟨_, rfl⟩
     have hlA : A2.length ≤ 80000 := by rw [← hA2, List.length_append]; omega
     rw [hA2] at hR
     have HA2 := Lib.hid hA2
     have q3 : wr.cell? ⟨bN, 3, none⟩ = some (.slice ab N.arcs.length ad) := hmN.cell 3
     have H7 := Lib.hid (And.intro hR hb)
     obtain ⟨xa, xc, rfl, -, -⟩ := RowAt.of_own hR.2.1
     clear hR hb hmM hmN hA2 hk hkl hle2
     obtain ⟨wL2, rfl⟩ : ∃ wL2 : World, wL2 = wr := ⟨_, rfl⟩
     go_wp2_with fail
     clear q3
     go_loopw [14] (fun s9 wx => ∃ (k : Nat) (fv : Value), k ≤ N.final.length ∧ s9 = .int .i64 k ∧ RS wx n0 bO (s0 + 1) s0 (F ++ uFin N M.states k) A2 fv (.slice xa A2.length xc) ∧ Below n0 w2 wx) (fun s9 _ => N.final.length - (intOf s9).toNat)
     case atStart => exact ⟨0, _, Nat.zero_le _, rfl, by simpa [uFin] using H7.out.1, H7.out.2⟩
     case round =>
      obtain ⟨k, fv, hk, rfl, hR, hb⟩ := hrel
      obtain ⟨hmM, hmN, -⟩ := HM.out wr (Hb2.out.trans (hb.mono hz2))
      by_cases hkl : k < N.final.length
      ·obtain ⟨lb, lo, hfbe, hlb, hyc⟩ := Hrows.out.2.1.nums (by omega)
       subst hfbe
       have hww : Below w.heap.size w wr := by rw [HW.out.2.2.2]; exact HW.out.2.1.trans ((Hb2.out.trans (hb.mono hz2)).mono (by omega))
       have y0 := (hww.cell (p := ⟨lb, lo + k, none⟩) hlb).trans (hyc k hkl)
       have hlb2 : lb < n0 := by have := HW.out.2.2.2; omega
       have hok := HV.out.2.final _ (List.getElem_mem hkl)
       have hsu := uFin_succ (A := N) (d := M.states) hkl
       obtain ⟨x, hx⟩ : ∃ x, N.final[k] = x := ⟨_, rfl⟩
       rw [hx] at y0 hsu hok
       unfold StateOk at hok
       have e5 : IntKind.i64.wrap (x + M.states) = x + M.states := IntWalk.i64_in _ (by omega)
       have hfn : (uFin N M.states k).length ≤ k := by simp [uFin]; omega
       obtain ⟨FL, hFLe⟩ : ∃ FL, F ++ uFin N M.states k = FL := ⟨_, rfl⟩
       have hsu2 : F ++ uFin N M.states (k + 1) = FL ++ [x + M.states] := by rw [hsu, ← List.append_assoc, hFLe]
       have hFLl : FL.length ≤ 8000 := by rw [← hFLe, List.length_append, HF.out.2]; omega
       rw [hFLe] at hR
       obtain ⟨va, vc, rfl, -, -⟩ := RowAt.of_own hR.1.fin
       have q2 : wr.cell? ⟨bN, 2, none⟩ = some (.slice (some ⟨lb, lo, none⟩) N.final.length fd) := hmN.cell 2
       have q0 : wr.cell? ⟨b0, 0, none⟩ = some (.int .i64 M.states) := hmM.cell 0
       have o2 : wr.cell? ⟨bO, 2, none⟩ = some (.slice va FL.length vc) := hR.1.blk.cell 2
       have hltb : n0 ≤ wr.heap.size := by have := hR.1.blk.lt; omega
       have hlow := fun (W : World) (hW : Below n0 wr W) => And.intro ((hW.cell (p := ⟨bN, 2, none⟩) (by show bN < n0; omega)).trans q2) (And.intro ((hW.cell (p := ⟨lb, lo + k, none⟩) hlb2).trans y0) ((hW.cell (p := ⟨b0, 0, none⟩) (by show b0 < n0; omega)).trans q0))
       have Hlow := Lib.hid hlow
       have hb9 : Below n0 wr (wr.alloc (.cells #[.int .i64 (x + M.states)] 3)).drew := ((Below.refl _ _).alloc hltb _).drew
       have HS9 := Lib.hid (hlow _ hb9)
       have o29 : (wr.alloc (.cells #[.int .i64 (x + M.states)] 3)).drew.cell? ⟨bO, 2, none⟩ = some (.slice va FL.length vc) := (hR.1.blk.alloc _).cell 2
       have hne1 := World.new_ne wr ⟨bO, 2, none⟩ o2
       have HR := Lib.hid (And.intro (show RS wr.drew n0 bO (s0 + 1) s0 FL A2 (.slice va FL.length vc) (.slice xa A2.length xc) from ⟨⟨hR.1.blk, own_drew hR.1.fin, own_drew hR.1.arc⟩, own_drew hR.2.1, hR.2.2⟩) (And.intro hb hb9))
       have Hsu := Lib.hid hsu2
       have hown9 : (wr.alloc (.cells #[.int .i64 (x + M.states)] 3)).drew.ownsRow n0 3 1 (.slice va FL.length vc) FL.length (nums FL) := own_drew (hR.1.fin.alloc _)
       have Hown9 := Lib.hid hown9
       clear hyc hx hsu hsu2 hfn hFLe hR hb hmM hmN hlow hb9 hww hown9 hok
       go_upto_region 24 with (fail)
       refine wp_region_held_drew (S := fun w' : World => w'.cell? ⟨bN, 2, none⟩ = some (.slice (some ⟨lb, lo, none⟩) N.final.length fd) ∧ w'.cell? ⟨lb, lo + k, none⟩ = some (.int .i64 x) ∧ w'.cell? ⟨b0, 0, none⟩ = some (.int .i64 M.states)) (by kernel_rfl) ⟨q2, y0, q0⟩ (fun hHeld => ?_)
       refine wpAnyH_take (i := 0) (v := ?_) rfl (by kernel_rfl) (by kernel_rfl) (by kernel_rfl) (fun _ _ _ h => h) (Or.inl ⟨by rfl, ?_⟩) (by assumption) ?_
       rotate_left
       ·intro w' hSw; (try dsimp only at hSw); first | (go_simp; done) | (go_simp; with_reducible rfl)
       try simp only [Act.put, List.setIfInBounds_toArray]
       refine wpAnyH_take (i := 2) (v := ?_) rfl (by kernel_rfl) (by kernel_rfl) (by kernel_rfl) (fun _ _ _ h => h) (Or.inl ⟨by rfl, ?_⟩) (by assumption) ?_
       rotate_left
       ·intro w' hSw; (try dsimp only at hSw); first | (go_simp; done) | (go_simp; with_reducible rfl)
       try simp only [Act.put]
       refine wpAnyH_take (i := 3) (v := ?_) rfl (by kernel_rfl) (by kernel_rfl) (by kernel_rfl) (fun _ _ _ h => h) (Or.inl ⟨by rfl, ?_⟩) (by assumption) ?_
       rotate_left
       ·intro w' hSw; (try dsimp only at hSw); first | (go_simp; done) | (go_simp; with_reducible rfl)
       try simp only [Act.put]
       refine wpAnyH_take (i := 4) (v := ?_) rfl (by kernel_rfl) (by kernel_rfl) (by kernel_rfl) (fun _ _ _ h => h) (Or.inl ⟨by rfl, ?_⟩) (by assumption) ?_
       rotate_left
       ·intro w' hSw; (try dsimp only at hSw); first | (go_simp; done) | (go_simp; with_reducible rfl)
       try simp only [Act.put]
       refine wpAnyH_take (i := 5) (v := ?_) rfl (by kernel_rfl) (by kernel_rfl) (by kernel_rfl) (fun _ _ _ h => h) (Or.inl ⟨by rfl, ?_⟩) (by assumption) ?_
       rotate_left
       ·intro w' hSw; (try dsimp only at hSw); first | (go_simp; done) | (go_simp; with_reducible rfl)
       try simp only [Act.put]
       refine wpAnyH_take (i := 6) (v := ?_) rfl (by kernel_rfl) (by kernel_rfl) (by kernel_rfl) (fun _ _ _ h => h) (Or.inl ⟨by rfl, ?_⟩) (by assumption) ?_
       rotate_left
       ·intro w' hSw; (try dsimp only at hSw); first | (go_simp; done) | (go_simp; with_reducible rfl)
       try simp only [Act.put]
       refine wpAnyH_take (i := 7) (v := ?_) rfl (by kernel_rfl) (by kernel_rfl) (by kernel_rfl) (fun _ _ _ h => h) (Or.inl ⟨by rfl, ?_⟩) (by assumption) ?_
       rotate_left
       ·intro w' hSw; (try dsimp only at hSw); first | (go_simp; done) | (go_simp; with_reducible rfl)
       try simp only [Act.put]
       refine wpAnyH_take (i := 8) (v := ?_) rfl (by kernel_rfl) (by kernel_rfl) (by kernel_rfl) (fun _ _ _ h => h) (Or.inl ⟨by rfl, ?_⟩) (by assumption) ?_
       rotate_left
       ·intro w' hSw; (try dsimp only at hSw); first | (go_simp; done) | (go_simp; with_reducible rfl)
       try simp only [Act.put]
       refine wpAnyH_take (i := 9) (v := ?_) rfl (by kernel_rfl) (by kernel_rfl) (by kernel_rfl) (fun _ _ _ h => h) (Or.inl ⟨by rfl, ?_⟩) (by assumption) ?_
       rotate_left
       ·intro w' hSw; (try dsimp only at hSw); first | (go_simp; done) | (go_simp; with_reducible rfl)
       try simp only [Act.put]
       refine wpAnyH_ready (rs := [1, 10]) (by kernel_rfl) (by simp) ?_
       refine AllReadyH.cons rfl (fun K hK => ?_) (AllReadyH.cons rfl (fun K hK => ?_) AllReadyH.nil)
       ·go_simp
        refine hK.out _ _ (hHeld) (fun _ => ?_)
        clear hK K
        try simp only [Act.put, List.setIfInBounds_toArray, List.set_cons_zero, List.set_cons_succ]
        refine wpAnyH_ready (rs := [10]) (by kernel_rfl) (by simp) ?_
        refine AllReadyH.cons rfl (fun K hK => ?_) AllReadyH.nil
        go_simp
        refine hK.out _ _ (HS9.out) (fun _ => ?_)
        clear hK K
        try simp only [Act.put, List.setIfInBounds_toArray, List.set_cons_zero, List.set_cons_succ]
        refine wpAnyH_ready (rs := [11]) (by kernel_rfl) (by simp) ?_
        refine AllReadyH.cons rfl (fun K hK => ?_) AllReadyH.nil
        refine step_append_lies _ (by rfl) _ _ _ (by rfl) n0 3 ii (.int .i64 0) 1 8 Tryz.underlying22 hii hii0 hii1 hii2 rfl (by decide) (.slice va FL.length vc) FL.length (nums FL) (by rfl) Hown9.out ⟨wr.heap.size, 0, none⟩ 1 1 [.int .i64 (x + M.states)] (by rfl) rfl (by exact cell_one_new _ _ _) (by simp [Value.oneCell']) (by decide) (by unfold maxLen; omega) (by omega) (by simp; omega) _ rfl ?_
        intro g cap w3 hown hgrow hat hlt
        have hf := HR.out.1.fin_app (x := x + M.states) (ob := .cells #[.int .i64 (x + M.states)] 3) hown hgrow
        have hb3 : Below n0 wr w3 := HR.out.2.2.grown hgrow (by simp; omega) (fun j hj => (HR.out.1.1.fin.lt j hj).1)
        have o3 : w3.cell? ⟨bO, 2, none⟩ = some (.slice va FL.length vc) := hf.2.2.cell 2
        have f3 := hf.2.2.frozen 2
        refine hK.out _ _ (Hlow.out w3 hb3) (fun _ => ?_)
        clear hK K
        try simp only [Act.put, List.setIfInBounds_toArray]
        refine wpAnyH_take (i := 12) (v := ?_) rfl (by kernel_rfl) (by kernel_rfl) (by kernel_rfl) (fun _ _ _ h => h) (Or.inl ⟨by rfl, ?_⟩) (by assumption) ?_
        rotate_left
        ·intro w' hSw; (try dsimp only at hSw); first | (go_simp; done) | (go_simp; with_reducible rfl)
        try simp only [Act.put]
        refine wpAnyH_ready (rs := [13]) (by kernel_rfl) (by simp) ?_
        refine AllReadyH.cons rfl (fun K hK => ?_) AllReadyH.nil
        go_simp
        refine hK.out _ _ (Hlow.out _ (hb3.setCell (p := ⟨bO, 2, none⟩) HR.out.1.2.2 _)) (fun _ => ?_)
        clear hK K
        try simp only [Act.put, List.setIfInBounds_toArray, List.set_cons_zero, List.set_cons_succ]
        refine wpAnyH_done (by kernel_rfl) ?_ _
        have HN := Lib.hid (And.intro hf.1 (HR.out.2.1.drew.trans hf.2.1))
        clear hf hb3 o3 f3 hown hgrow hat hlt o2 o29 q2 q0 y0
        go_wp2_with fail
        exact ⟨⟨k + 1, .slice (some ⟨g, 0, none⟩) (FL.length + 1) cap, by omega, by go_num, by rw [Hsu.out]; exact HN.out.1, HN.out.2⟩, by simp [intOf]; omega⟩
       ·go_simp
        refine hK.out _ _ (HS9.out) (fun _ => ?_)
        clear hK K
        try simp only [Act.put, List.setIfInBounds_toArray, List.set_cons_zero, List.set_cons_succ]
        refine wpAnyH_ready (rs := [1]) (by kernel_rfl) (by simp) ?_
        refine AllReadyH.cons rfl (fun K hK => ?_) AllReadyH.nil
        go_simp
        refine hK.out _ _ (HS9.out) (fun _ => ?_)
        clear hK K
        try simp only [Act.put, List.setIfInBounds_toArray, List.set_cons_zero, List.set_cons_succ]
        refine wpAnyH_ready (rs := [11]) (by kernel_rfl) (by simp) ?_
        refine AllReadyH.cons rfl (fun K hK => ?_) AllReadyH.nil
        refine step_append_lies _ (by rfl) _ _ _ (by rfl) n0 3 ii (.int .i64 0) 1 8 Tryz.underlying22 hii hii0 hii1 hii2 rfl (by decide) (.slice va FL.length vc) FL.length (nums FL) (by rfl) Hown9.out ⟨wr.heap.size, 0, none⟩ 1 1 [.int .i64 (x + M.states)] (by rfl) rfl (by exact cell_one_new _ _ _) (by simp [Value.oneCell']) (by decide) (by unfold maxLen; omega) (by omega) (by simp; omega) _ rfl ?_
        intro g cap w3 hown hgrow hat hlt
        have hf := HR.out.1.fin_app (x := x + M.states) (ob := .cells #[.int .i64 (x + M.states)] 3) hown hgrow
        have hb3 : Below n0 wr w3 := HR.out.2.2.grown hgrow (by simp; omega) (fun j hj => (HR.out.1.1.fin.lt j hj).1)
        have o3 : w3.cell? ⟨bO, 2, none⟩ = some (.slice va FL.length vc) := hf.2.2.cell 2
        have f3 := hf.2.2.frozen 2
        refine hK.out _ _ (Hlow.out w3 hb3) (fun _ => ?_)
        clear hK K
        try simp only [Act.put, List.setIfInBounds_toArray]
        refine wpAnyH_take (i := 12) (v := ?_) rfl (by kernel_rfl) (by kernel_rfl) (by kernel_rfl) (fun _ _ _ h => h) (Or.inl ⟨by rfl, ?_⟩) (by assumption) ?_
        rotate_left
        ·intro w' hSw; (try dsimp only at hSw); first | (go_simp; done) | (go_simp; with_reducible rfl)
        try simp only [Act.put]
        refine wpAnyH_ready (rs := [13]) (by kernel_rfl) (by simp) ?_
        refine AllReadyH.cons rfl (fun K hK => ?_) AllReadyH.nil
        go_simp
        refine hK.out _ _ (Hlow.out _ (hb3.setCell (p := ⟨bO, 2, none⟩) HR.out.1.2.2 _)) (fun _ => ?_)
        clear hK K
        try simp only [Act.put, List.setIfInBounds_toArray, List.set_cons_zero, List.set_cons_succ]
        refine wpAnyH_done (by kernel_rfl) ?_ _
        have HN := Lib.hid (And.intro hf.1 (HR.out.2.1.drew.trans hf.2.1))
        clear hf hb3 o3 f3 hown hgrow hat hlt o2 o29 q2 q0 y0
        go_wp2_with fail
        exact ⟨⟨k + 1, .slice (some ⟨g, 0, none⟩) (FL.length + 1) cap, by omega, by go_num, by rw [Hsu.out]; exact HN.out.1, HN.out.2⟩, by simp [intOf]; omega⟩
      ·obtain rfl : k = N.final.length := by omega
       have hfn : (uFin N M.states N.final.length).length ≤ N.final.length := by simp [uFin]
       have hun : uFl M N 2 = F ++ uFin N M.states N.final.length := by rw [← HF.out.1]; rfl
       obtain ⟨FL, hFLe⟩ : ∃ FL, F ++ uFin N M.states N.final.length = FL := ⟨_, rfl⟩
       have hFLl : FL.length ≤ 8000 := by rw [← hFLe, List.length_append, HF.out.2]; omega
       rw [hFLe] at hR hun
       have Hun := Lib.hid hun
       obtain ⟨wE, rfl⟩ : ∃ wE : World, wE = wr := ⟨_, rfl⟩
       have hbE : Below (b0 + 3) W0 wE := Hb2.out.trans (hb.mono hz2)
       have mm := (HA.out wE hbE).1
       have HQ := Lib.hid (And.intro hR (And.intro hb hbE))
       have m0 : wE.cell? ⟨b0, 0, none⟩ = some (.int .i64 M.states) := hmM.cell 0
       have m1' : wE.cell? ⟨b0, 1, none⟩ = some (.int .i64 M.start) := hmM.cell 1
       have m2 : wE.cell? ⟨b0, 2, none⟩ = some (.slice fa M.final.length fc) := hmM.cell 2
       have m3 : wE.cell? ⟨b0, 3, none⟩ = some (.slice aa M.arcs.length ac) := hmM.cell 3
       have q2 : wE.cell? ⟨bN, 2, none⟩ = some (.slice fb N.final.length fd) := hmN.cell 2
       have hltE : n0 ≤ wE.heap.size := by have := hR.1.blk.lt; omega
       clear hfn hFLe hun hR hb hmM hmN hbE
       go_upto_region 25 with (fail)
       clear q2
       go_cut [144] (fun c wx => c = .bool (decide (uBg M N 2)) ∧ Below wE.heap.size wE wx)
       case first =>
        go_wp2_with fail
        refine (IsFinal12_any M _ M.start wE mm).mono ?_
        rintro e w8 ⟨rfl, hb8⟩
        clear m0 m1' m2 m3 mm
        by_cases hg : M.start ∈ M.final
        ·rw [decide_eq_true hg]
         have Hg := Lib.hid (decide_eq_true (show uBg M N 2 from .inl hg))
         clear hg
         go_wp2_with fail
         go_meet
         exact ⟨by rw [Hg.out], hb8⟩
        ·rw [decide_eq_false hg]
         have hgb : decide (N.start ∈ N.final) = decide (uBg M N 2) := by
          have : uBg M N 2 ↔ N.start ∈ N.final := ⟨fun h => h.resolve_left hg, .inr⟩
          simp only [this]
         have Hgb := Lib.hid hgb
         have hb8' : Below (b0 + 3) W0 w8 := HQ.out.2.2.trans (hb8.mono (by omega))
         obtain ⟨-, hmN, -⟩ := HM.out w8 hb8'
         have n0' : w8.cell? ⟨bN, 0, none⟩ = some (.int .i64 N.states) := hmN.cell 0
         have n1' : w8.cell? ⟨bN, 1, none⟩ = some (.int .i64 N.start) := hmN.cell 1
         have n2 : w8.cell? ⟨bN, 2, none⟩ = some (.slice fb N.final.length fd) := hmN.cell 2
         have n3 : w8.cell? ⟨bN, 3, none⟩ = some (.slice ab N.arcs.length ad) := hmN.cell 3
         have nn := (HA.out w8 hb8').2
         clear hg hgb hmN hb8'
         go_wp2_with fail
         refine (IsFinal12_any N _ N.start w8 nn).mono ?_
         rintro e w9 ⟨rfl, hb9⟩
         rw [Hgb.out]
         clear n0' n1' n2 n3 nn
         go_wp2_with fail
         go_meet
         exact ⟨rfl, hb8.trans (hb9.mono hb8.size)⟩
       obtain ⟨rfl, hcut⟩ := hcut
       obtain ⟨wd, rfl⟩ : ∃ wd : World, wd = wc := ⟨_, rfl⟩
       have HC := Lib.hid (And.intro (HQ.out.1.below hcut) (HQ.out.2.1.trans (hcut.mono hltE)))
       clear hcut m0 m1' m2 m3 mm HQ
       go_upto_if 144 with (fail)
       go_cut [] (fun wx => ∃ fv', RS wx n0 bO (s0 + 1) s0 (FL ++ (if uBg M N 2 then [s0] else [])) A2 fv' (.slice xa A2.length xc) ∧ Below n0 w2 wx)
       case first =>
        by_cases hg : uBg M N 2
        ·rw [decide_eq_true hg]
         have Hg := Lib.hid hg
         clear hg
         obtain ⟨va, vc, rfl, -, -⟩ := RowAt.of_own HC.out.1.1.fin
         have o2 : wd.cell? ⟨bO, 2, none⟩ = some (.slice va FL.length vc) := HC.out.1.1.blk.cell 2
         go_wp2_with (at_builtin; refine wpList_append_own_at _ rfl _ _ 22 rfl n0 3 ii (.int .i64 0) 1 8 Tryz.underlying22 hii hii0 hii1 hii2 rfl (by decide) _ _ _ rfl (HC.out.1.1.fin.alloc _) ⟨wd.heap.size, 0, none⟩ 1 1 [.int .i64 s0] rfl rfl (by exact cell_one_new _ _ _) (by simp [Value.oneCell']) (by unfold maxLen; omega) (by omega) (by have := HC.out.1.1.blk.lt; have := HC.out.1.2.2; simp; omega) ?_)
         intro v9 w9 hown hgrow _ _
         obtain ⟨va9, vc9, rfl, -, -⟩ := RowAt.of_own hown
         have hf := HC.out.1.fin_app (x := s0) hown hgrow
         have y2 : w9.cell? ⟨bO, 2, none⟩ = some (.slice va FL.length vc) := hf.2.2.cell 2
         have f2 := hf.2.2.frozen 2
         have HF9 := Lib.hid (And.intro hf.1 (HC.out.2.trans hf.2.1))
         clear hown hgrow hf o2
         go_wp2_with fail
         go_meet
         exact ⟨_, by rw [if_pos Hg.out]; exact HF9.out.1, HF9.out.2⟩
        ·rw [decide_eq_false hg]
         have Hg := Lib.hid hg
         clear hg
         go_wp2_with fail
         go_meet
         exact ⟨_, by rw [if_neg Hg.out, List.append_nil]; exact HC.out.1, HC.out.2⟩
       obtain ⟨fv', hR, hb⟩ := hcut
       obtain ⟨F1, hF1⟩ : ∃ F1, FL ++ (if uBg M N 2 then [s0] else []) = F1 := ⟨_, rfl⟩
       have hUn : ∀ S, ArcsOf A2 S → UnionM M N ⟨s0 + 1, s0, F1, S⟩ := fun S hS => by
        have h := union_final HV.out.1 HV.out.2 (S := S) (by
         have e : uAl M N 2 = A2 := by rw [← HA2.out, ← HA1.out, Hs0.out]; rfl
         rw [e]; exact hS)
        rw [Hun.out, ← Hs0.out, hF1] at h
        exact h
       have hF1l : F1.length ≤ 8001 := by rw [← hF1, List.length_append]; split <;> simp <;> omega
       rw [hF1] at hR
       have HUn := Lib.hid hUn
       obtain ⟨fva, fvc, rfl, -, -⟩ := RowAt.of_own hR.1.fin
       obtain ⟨_, _, e1, -, hrow⟩ := RowAt.of_own hR.2.1
       injection e1 with e1 _ e1c
       subst e1 e1c
       have HQ := Lib.hid (And.intro hR hb)
       clear hR hb hF1 hUn HC
       go_upto_region 27 with (fail)
       go_wp2_with fail
       refine (Sorted12_any A2 xa xc (by omega) wc hrow).mono ?_
       clear hrow
       rintro e w5 ⟨v5, S, rfl, hinc, hmem, hown5, hb5⟩
       obtain ⟨q1, q2, q3, q4, q5⟩ := HQ.out.1.sorted hb5 hown5
       obtain ⟨aS, cS, rfl, -, -⟩ := RowAt.of_own hown5
       have q6 : Below (b0 + 3) W0 (w5.setCell ⟨bO, 3, none⟩ (.slice aS S.length cS)) := Hb2.out.trans ((HQ.out.2.trans q4).mono hz2)
       have hS : ArcsOf A2 S := ⟨hinc, hmem⟩
       have hSlen := hS.len
       have o3 : w5.cell? ⟨bO, 3, none⟩ = some (.slice none 0 0) := q5.cell 3
       have of3 := q5.frozen 3
       have HU := Lib.hid (And.intro (HUn.out S hS) (And.intro q1 (And.intro q2 (And.intro q3 q6))))
       clear hinc hmem hown5 hb5 q1 q2 q3 q4 q5 q6 hS
       go_upto_region 28 with (fail)
       generalize hWs : w5.setCell ⟨bO, 3, none⟩ _ = Ws at HU ⊢
       clear hWs o3 of3
       have o0 : Ws.cell? ⟨bO, 0, none⟩ = some (.int .i64 (s0 + 1)) := HU.out.2.1.cell 0
       have o1 : Ws.cell? ⟨bO, 1, none⟩ = some (.int .i64 s0) := HU.out.2.1.cell 1
       have o2 : Ws.cell? ⟨bO, 2, none⟩ = some (.slice fva F1.length fvc) := HU.out.2.1.cell 2
       have o3 : Ws.cell? ⟨bO, 3, none⟩ = some (.slice aS S.length cS) := HU.out.2.1.cell 3
       obtain ⟨-, -, hmR⟩ := HM.out Ws HU.out.2.2.2.2
       have z0 : Ws.cell? ⟨bR, 0, none⟩ = some (.int .i64 0) := hmR.cell 0
       have z1 : Ws.cell? ⟨bR, 1, none⟩ = some (.int .i64 0) := hmR.cell 1
       have z2 : Ws.cell? ⟨bR, 2, none⟩ = some (.slice none 0 0) := hmR.cell 2
       have z3 : Ws.cell? ⟨bR, 3, none⟩ = some (.slice none 0 0) := hmR.cell 3
       have fz : ∀ j, Ws.frozen? ⟨bR, j, none⟩ = false := fun j => hmR.frozen j
       obtain ⟨_, _, e1, -, hrS⟩ := RowAt.of_own HU.out.2.2.2.1
       injection e1 with e1 _ e1c
       subst e1 e1c
       have HmR := Lib.hid (And.intro hmR hrS)
       clear hmR hrS
       have hbig : (4000 < s0 + 1 ∨ 20000 < S.length) ∨ ¬ (4000 < s0 + 1 ∨ 20000 < S.length) := Classical.em _
       rcases hbig with hbig | hbig
       ·have Hbig := Lib.hid hbig
        have hd : (decide (4000 < s0 + 1) = true) ∨ (decide (4000 < s0 + 1) = false ∧ decide ((20000 : Int) < (S.length : Int)) = true) := by
         by_cases h : 4000 < s0 + 1
         ·exact .inl (decide_eq_true h)
         ·exact .inr ⟨decide_eq_false h, decide_eq_true (by have := hbig.resolve_left h; omega)⟩
        clear hbig
        have hcR := fill_chg Ws bR (.int .i64 0) (.int .i64 0) (.slice none 0 0) (.slice none 0 0)
        have HcR := Lib.hid hcR
        clear hcR
        rcases hd with d1 | ⟨d1, d2⟩
        all_goals (
         go_wp2_with fail
         refine bodyPost_ret (v := .tuple #[.agg #[.int .i64 0, .int .i64 0, .slice none 0 0, .slice none 0 0], .int .i64 2]) (by simp [results, Tryz.results10, go_sem, z0, z1, z2, z3]) rfl ?_
         refine ⟨_, zeroM, 2, rfl, zero_mach _ _, ?_, .inr ⟨HV.out.1, HV.out.2, _, HU.out.1, .inl ⟨Hbig.out, rfl, rfl⟩⟩⟩
         have hbF := HU.out.2.2.2.2
         have hwb := HW.out.2.2.2
         rw [hwb]
         exact (HW.out.2.1.trans (hbF.mono (by omega))).trans (HcR.out.below (fun k hk => by omega) (by have := hbF.size; have := HW.out.2.2.1; omega)))
       ·have Hbig := Lib.hid hbig
        have d1 : decide (4000 < s0 + 1) = false := decide_eq_false (fun h => hbig (.inl h))
        have d2 : decide ((20000 : Int) < (S.length : Int)) = false := decide_eq_false (fun h => hbig (.inr (by omega)))
        have hcR := fill_chg Ws bR (.int .i64 (s0 + 1)) (.int .i64 s0) (.slice fva F1.length fvc) (.slice aS S.length cS)
        have Hm := Lib.hid ((made_mach (st := s0 + 1) (s0 := s0) (cS := cS) HmR.out.1 HU.out.2.2.1 HmR.out.2 (by unfold maxLen; omega) (by unfold maxLen; omega)).2 _ hcR)
        have HcR := Lib.hid hcR
        clear hcR hbig
        go_wp2_with fail
        refine bodyPost_ret (v := .tuple #[.agg #[.int .i64 (s0 + 1), .int .i64 s0, .slice fva F1.length fvc, .slice aS S.length cS], .int .i64 0]) (by simp [results, Tryz.results10, go_sem, z0, z1, z2, z3]) rfl ?_
        refine ⟨_, _, 0, rfl, Hm.out, ?_, .inr ⟨HV.out.1, HV.out.2, _, HU.out.1, .inr ⟨Hbig.out, rfl, rfl⟩⟩⟩
        have hbF := HU.out.2.2.2.2
        have hwb := HW.out.2.2.2
        rw [hwb]
        exact (HW.out.2.1.trans (hbF.mono (by omega))).trans (HcR.out.below (fun k hk => by omega) (by have := hbF.size; have := HW.out.2.2.1; omega))
end Go.Proofs.YtfihjpffjdnahaaGreatDoor
