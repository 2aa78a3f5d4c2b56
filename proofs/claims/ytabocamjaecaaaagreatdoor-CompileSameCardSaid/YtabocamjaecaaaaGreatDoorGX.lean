/- W12b · W12c · Or -/
import Derived.Test.YtabocamjaecaaaaGreatDoorGI
import Derived.Deep.DeepCutAuto
import Derived.Deep.CutBlock
import Derived.IntWalk
/- Walk of the reference's sorting of arcs (gazetteerref12.Sorted). -/
namespace Go.Proofs.YtabocamjaecaaaaGreatDoor
open Go.RowKit Classical

theorem own_succ {W : World} {base : Nat} {e : TypeId} {size : Nat} {v : Value} {k : Nat} {xs : List Value} (h : W.ownsRow base e size v (k + 1) xs) : ∃ g cap, v = .slice (some ⟨g, 0, none⟩) (k + 1) cap := by
 rcases h.2 with ⟨_, h0⟩ | ⟨g, cap, _, rfl, _⟩
 ·omega
 ·exact ⟨g, cap, rfl⟩

theorem cells_new (w : World) (cs : List Value) (t : TypeId) : ∀ j u, cs[j]? = some u → (w.alloc (.cells cs.toArray t)).cell? ((⟨w.heap.size, 0, none⟩ : Addr).add j) = some u := by
 intro j u h
 have := Box.new w cs t j u h
 unfold Addr.add
 split
 ·rename_i e; subst e; exact this
 ·simpa using this

end Go.Proofs.YtabocamjaecaaaaGreatDoor

/- Walks of the reference's comparing (gazetteerref12: Same, Texts); how machines read. -/
namespace Go.Proofs.YtabocamjaecaaaaGreatDoor
open Go.RowKit Classical

structure Mach where
 states : Int
 start : Int
 final : List Int
 arcs : List Arc
def MachAt (w : World) (B : Nat) (v : Value) (M : Mach) : Prop :=
 ∃ fa fc aa ac, v = .agg #[.int .i64 M.states, .int .i64 M.start, .slice fa M.final.length fc, .slice aa M.arcs.length ac] ∧ M.final.length ≤ maxLen ∧ M.arcs.length ≤ maxLen ∧
  RowAt w B fa (nums M.final) ∧ RowAt w B aa (flat M.arcs)
theorem MachAt.below {w w' : World} {B B' : Nat} {v : Value} {M : Mach} (h : MachAt w B v M) (hb : Below B' w w') (hB : B ≤ B') : MachAt w' B v M := by
 obtain ⟨fa, fc, aa, ac, e, h1, h2, h3, h4⟩ := h
 exact ⟨fa, fc, aa, ac, e, h1, h2, h3.below hb hB, h4.below hb hB⟩
theorem MachAt.more {w : World} {B B' : Nat} {v : Value} {M : Mach} (h : MachAt w B v M) (hB : B ≤ B') : MachAt w B' v M := by
 obtain ⟨fa, fc, aa, ac, e, h1, h2, h3, h4⟩ := h
 exact ⟨fa, fc, aa, ac, e, h1, h2, h3.more hB, h4.more hB⟩

theorem list_ext_to {α : Type} {a b : List α} (hl : a.length = b.length) (h : ∀ j, j < a.length → a[j]? = b[j]?) : a = b := by
 apply List.ext_getElem?
 intro j
 rcases Nat.lt_or_ge j a.length with hj | hj
 ·exact h j hj
 ·rw [List.getElem?_eq_none hj, List.getElem?_eq_none (by omega)]
theorem to_step {α : Type} {a b : List α} {k : Nat} (h : ∀ j, j < k → a[j]? = b[j]?) (ha : k < a.length) (hb : k < b.length) (e : a[k] = b[k]) : ∀ j, j < k + 1 → a[j]? = b[j]? := by
 intro j hj
 rcases Nat.lt_succ_iff_lt_or_eq.1 hj with hj | rfl
 ·exact h j hj
 ·rw [List.getElem?_eq_getElem ha, List.getElem?_eq_getElem hb, e]

set_option maxRecDepth 100000 in
set_option maxHeartbeats 1000000 in
theorem Texts12_any (a b : List ByteArray) (aa ba : Option Addr) (ac bc : Nat) (hal : a.length ≤ maxLen) (w : World) (ha : RowAt w w.heap.size aa (strs a)) (hb : RowAt w w.heap.size ba (strs b)) :
  Calls Tryz.prog 13 #[.slice aa a.length ac, .slice ba b.length bc] w fun e w' => e = .returned (.bool (decide (a = b))) ∧ Below w.heap.size w w' := by
 unfold maxLen at hal
 go_enter Tryz.func13, Tryz.ntmps13
 by_cases hl : a.length = b.length
 ·have d1 : ((a.length : Int) != (b.length : Int)) = false := by simp [hl]
  have Hl := Lib.hid hl
  clear hl
  go_wp2_with fail
  go_loopw [5] (fun i wr => ∃ k : Nat, k ≤ a.length ∧ i = .int .i64 k ∧ (∀ j, j < k → a[j]? = b[j]?) ∧ Below w.heap.size w wr) (fun i _ => a.length - (intOf i).toNat)
  case atStart => exact ⟨0, Nat.zero_le _, rfl, by simp, Below.refl _ _⟩
  case round =>
   obtain ⟨k, hk, rfl, hto, hbw⟩ := hrel
   have Hto := Lib.hid hto
   clear hto
   by_cases hka : k < a.length
   ·have hkb : k < b.length := by have := Hl.out; omega
    obtain ⟨g, o, rfl, hg, hc⟩ := ha.strs (by omega)
    obtain ⟨g', o', rfl, hg', hc'⟩ := hb.strs (by omega)
    have x0 := (hbw.cell (p := ⟨g, o + k, none⟩) hg).trans (hc k hka)
    have y0 := (hbw.cell (p := ⟨g', o' + k, none⟩) hg').trans (hc' k hkb)
    clear hc hc'
    by_cases he : a[k] = b[k]
    ·have d2 : (a[k].toList == b[k].toList) = true := by rw [he]; simp
     have He := Lib.hid he
     clear he
     go_wp2_with fail
     go_quiet (fail)
     go_wp2
     exact ⟨⟨k + 1, by omega, by go_num, to_step Hto.out hka hkb He.out, below_drewN hbw _⟩, by simp [intOf]; omega⟩
    ·have d2 : (a[k].toList == b[k].toList) = false := by
      rw [ByteArray.toList_eq, ByteArray.toList_eq, beq_eq_false_iff_ne]; exact fun e => he (bl_inj e)
     have He := Lib.hid he
     clear he
     go_wp2_with fail
     go_quiet (fail)
     go_wp2
     go_ret
     refine ⟨ret_no fun hab => He.out ?_, below_drewN hbw _⟩
     subst hab; rfl
   ·go_wp2
    go_ret
    exact ⟨ret_yes (list_ext_to Hl.out fun j hj => Hto.out j (by omega)), hbw⟩
 ·have d1 : ((a.length : Int) != (b.length : Int)) = true := by simp; omega
  have Hl := Lib.hid hl
  clear hl
  go_wp2
  go_ret
  exact ⟨ret_no fun hab => Hl.out (by rw [hab]), Below.refl _ _⟩

set_option maxRecDepth 100000 in
set_option maxHeartbeats 2000000 in
theorem Same12_any (M N : Mach) (v u : Value) (w : World) (hM : MachAt w w.heap.size v M) (hN : MachAt w w.heap.size u N) :
  Calls Tryz.prog 15 #[v, u] w fun e w' => e = .returned (.bool (decide (M = N))) ∧ Below w.heap.size w w' := by
 obtain ⟨fa, fc, aa, ac, rfl, hf1, ha1, hf, ha⟩ := hM
 obtain ⟨fa', fc', aa', ac', rfl, hf1', ha1', hf', ha'⟩ := hN
 unfold maxLen at hf1 ha1 hf1' ha1'
 go_enter Tryz.func15, Tryz.ntmps15
 have hbel : ∀ o o' : Obj, Below w.heap.size w ((w.alloc o).alloc o') := fun o o' => ((Below.refl _ _).alloc (Nat.le_refl _) _).alloc (by simp) _
 have Hbel := Lib.hid hbel
 clear hbel
 by_cases e1 : M.states = N.states
 ·by_cases e2 : M.start = N.start
  ·by_cases e3 : M.final.length = N.final.length
   ·by_cases e4 : M.arcs.length = N.arcs.length
    ·have d1 : (M.states != N.states) = false := by simp [e1]
     have d2 : (M.start != N.start) = false := by simp [e2]
     have d3 : ((M.final.length : Int) != N.final.length) = false := by simp [e3]
     have d4 : ((M.arcs.length : Int) != N.arcs.length) = false := by simp [e4]
     have E := Lib.hid (And.intro e1 (And.intro e2 (And.intro e3 e4)))
     clear e1 e2 e3 e4
     go_wp2_with fail
     generalize hW0 : ((w.alloc _).alloc _) = W0
     have hw0 : Below w.heap.size w W0 := by rw [← hW0]; exact Hbel.out _ _
     have hsz : W0.heap.size = w.heap.size + 2 := by rw [← hW0]; simp
     have hbr : Box W0 w.heap.size [Value.int .i64 M.states, .int .i64 M.start, .slice fa M.final.length fc, .slice aa M.arcs.length ac] := by
      rw [← hW0]; exact (Box.new _ _ _).alloc (by simp) _
     have hba : Box W0 (w.heap.size + 1) [Value.int .i64 N.states, .int .i64 N.start, .slice fa' N.final.length fc', .slice aa' N.arcs.length ac'] := by
      rw [← hW0]; have := (Box.new (w.alloc (.cells #[Value.int .i64 M.states, .int .i64 M.start, .slice fa M.final.length fc, .slice aa M.arcs.length ac] 32)) [Value.int .i64 N.states, .int .i64 N.start, .slice fa' N.final.length fc', .slice aa' N.arcs.length ac'] 32)
      simpa using this
     clear hW0
     have Hk := Lib.hid (fun wr (hbw : Below W0.heap.size W0 wr) => And.intro (hbr.below hbw (by omega)).c4 (hba.below hbw (by omega)).c4)
     clear hbr hba d1 d2 d3 d4
     go_loopw [5] (fun i wr => ∃ k : Nat, k ≤ M.final.length ∧ i = .int .i64 k ∧ (∀ j, j < k → M.final[j]? = N.final[j]?) ∧ Below W0.heap.size W0 wr) (fun i _ => M.final.length - (intOf i).toNat)
     case atStart => exact ⟨0, Nat.zero_le _, rfl, by simp, Below.refl _ _⟩
     case round =>
      obtain ⟨k, hk, rfl, hto, hbw⟩ := hrel
      have Hto := Lib.hid hto
      clear hto
      have hwr := hw0.trans (hbw.mono hw0.size)
      obtain ⟨⟨r0, r1, r2, r3⟩, s0, s1, s2, s3⟩ := Hk.out wr hbw
      by_cases hka : k < M.final.length
      ·have hkb : k < N.final.length := by have := E.out.2.2.1; omega
       obtain ⟨g, o, rfl, hg, hc⟩ := hf.nums (by omega)
       obtain ⟨g', o', rfl, hg', hc'⟩ := hf'.nums (by omega)
       have x0 := (hwr.cell (p := ⟨g, o + k, none⟩) hg).trans (hc k hka)
       have y0 := (hwr.cell (p := ⟨g', o' + k, none⟩) hg').trans (hc' k hkb)
       clear hc hc'
       by_cases he : M.final[k] = N.final[k]
       ·have d2 : (M.final[k] != N.final[k]) = false := by simp [he]
        have He := Lib.hid he
        clear he
        go_wp2_with fail
        go_quiet (fail)
        go_wp2
        exact ⟨⟨k + 1, by omega, by go_num, to_step Hto.out hka hkb He.out, below_drewN hbw _⟩, by simp [intOf]; omega⟩
       ·have d2 : (M.final[k] != N.final[k]) = true := by simp [he]
        have He := Lib.hid he
        clear he
        go_wp2_with fail
        go_quiet (fail)
        go_wp2
        go_ret
        refine ⟨ret_no fun hab => He.out ?_, below_drewN hwr _⟩
        subst hab; rfl
      ·have hfe : M.final = N.final := list_ext_to E.out.2.2.1 fun j hj => Hto.out j (by omega)
       have Hfe := Lib.hid hfe
       clear hfe
       go_wp2_with fail
       obtain ⟨wo, rfl⟩ : ∃ wo : World, wo = wr := ⟨_, rfl⟩
       clear r0 r1 r2 r3 s0 s1 s2 s3
       go_loopw [6] (fun i wr => ∃ k : Nat, k ≤ M.arcs.length ∧ i = .int .i64 k ∧ (∀ j, j < k → M.arcs[j]? = N.arcs[j]?) ∧ Below W0.heap.size W0 wr) (fun i _ => M.arcs.length - (intOf i).toNat)
       case atStart => exact ⟨0, Nat.zero_le _, rfl, by simp, hbw⟩
       case round =>
        obtain ⟨q, hq, rfl, hto, hbr⟩ := hrel
        have Hto2 := Lib.hid hto
        clear hto
        have hwq := hw0.trans (hbr.mono hw0.size)
        obtain ⟨⟨r0, r1, r2, r3⟩, s0, s1, s2, s3⟩ := Hk.out wr hbr
        by_cases hka : q < M.arcs.length
        ·have hkb : q < N.arcs.length := by have := E.out.2.2.2; omega
         obtain ⟨g, o, rfl, hg, hc⟩ := ha.arcs (by omega)
         obtain ⟨g', o', rfl, hg', hc'⟩ := ha'.arcs (by omega)
         have hx := hc q hka
         have hy := hc' q hkb
         have x0 := (hwq.cell (p := ⟨g, o + q * 4, none⟩) hg).trans hx.1
         have x1 := (hwq.cell (p := ⟨g, o + q * 4 + 1, none⟩) hg).trans hx.2.1
         have x2 := (hwq.cell (p := ⟨g, o + q * 4 + 2, none⟩) hg).trans hx.2.2.1
         have x3 := (hwq.cell (p := ⟨g, o + q * 4 + 3, none⟩) hg).trans hx.2.2.2
         have y0 := (hwq.cell (p := ⟨g', o' + q * 4, none⟩) hg').trans hy.1
         have y1 := (hwq.cell (p := ⟨g', o' + q * 4 + 1, none⟩) hg').trans hy.2.1
         have y2 := (hwq.cell (p := ⟨g', o' + q * 4 + 2, none⟩) hg').trans hy.2.2.1
         have y3 := (hwq.cell (p := ⟨g', o' + q * 4 + 3, none⟩) hg').trans hy.2.2.2
         have hne := neq_arc M.arcs[q] N.arcs[q]
         have hgd := guard_arc
         clear hc hc' hx hy
         by_cases he : M.arcs[q] = N.arcs[q]
         ·have d2 : decide (M.arcs[q] = N.arcs[q]) = true := decide_eq_true he
          have He := Lib.hid he
          clear he
          go_wp2_with fail
          go_quiet (fail)
          go_wp2
          exact ⟨⟨q + 1, by omega, by go_num, to_step Hto2.out hka hkb He.out, below_drewN hbr _⟩, by simp [intOf]; omega⟩
         ·have d2 : decide (M.arcs[q] = N.arcs[q]) = false := decide_eq_false he
          have He := Lib.hid he
          clear he
          go_wp2_with fail
          go_quiet (fail)
          go_wp2
          go_ret
          refine ⟨ret_no fun hab => He.out ?_, below_drewN hwq _⟩
          subst hab; rfl
        ·have hae : M.arcs = N.arcs := list_ext_to E.out.2.2.2 fun j hj => Hto2.out j (by omega)
         have Hae := Lib.hid hae
         clear hae
         go_wp2
         go_ret
         refine ⟨ret_yes ?_, hwq⟩
         have h1 := E.out.1; have h2 := E.out.2.1; have h3 := Hfe.out; have h4 := Hae.out
         cases M; cases N
         simp_all
    ·have d1 : (M.states != N.states) = false := by simp [e1]
     have d2 : (M.start != N.start) = false := by simp [e2]
     have d3 : ((M.final.length : Int) != N.final.length) = false := by simp [e3]
     have d4 : ((M.arcs.length : Int) != N.arcs.length) = true := by simp; omega
     have E := Lib.hid e4
     clear e1 e2 e3 e4
     go_wp2
     go_ret
     exact ⟨ret_no fun h => E.out (by rw [h]), Hbel.out _ _⟩
   ·have d1 : (M.states != N.states) = false := by simp [e1]
    have d2 : (M.start != N.start) = false := by simp [e2]
    have d3 : ((M.final.length : Int) != N.final.length) = true := by simp; omega
    have E := Lib.hid e3
    clear e1 e2 e3
    go_wp2
    go_ret
    exact ⟨ret_no fun h => E.out (by rw [h]), Hbel.out _ _⟩
  ·have d1 : (M.states != N.states) = false := by simp [e1]
   have d2 : (M.start != N.start) = true := by simp [e2]
   have E := Lib.hid e2
   clear e1 e2
   go_wp2
   go_ret
   exact ⟨ret_no fun h => E.out (by rw [h]), Hbel.out _ _⟩
 ·have d1 : (M.states != N.states) = true := by simp [e1]
  have E := Lib.hid e1
  clear e1
  go_wp2
  go_ret
  exact ⟨ret_no fun h => E.out (by rw [h]), Hbel.out _ _⟩

end Go.Proofs.YtabocamjaecaaaaGreatDoor

/- Walk: the first of some numbers that is not 0 (cmp.Or). -/
namespace Go.Proofs.YtabocamjaecaaaaGreatDoor
open Go.RowKit Classical

/-- The first of some numbers that is not 0. -/
def orI : List Int → Int
 | [] => 0
 | x :: r => if x = 0 then orI r else x
theorem orI_drop {l : List Int} {k : Nat} (h : ∀ j, j < k → l[j]? = some 0) (hk : k ≤ l.length) : orI l = orI (l.drop k) := by
 induction k generalizing l with
 | zero => rfl
 | succ k ih =>
  cases l with
  | nil => simp at hk
  | cons a l =>
   have h0 := h 0 (by omega)
   simp at h0
   subst h0
   rw [orI, if_pos rfl, ih (fun j hj => by have := h (j + 1) (by omega); simpa using this) (by simpa using hk)]
   rfl

set_option maxRecDepth 100000 in
set_option maxHeartbeats 1000000 in
theorem Or_any (zs : List Int) (a : Option Addr) (c : Nat) (B : Nat) (hz : zs.length ≤ maxLen) (w : World) (h : RowAt w B a (nums zs)) :
  Calls Tryz.prog 22 #[.slice a zs.length c] w fun e w' => e = .returned (.int .i64 (orI zs)) ∧ w' = w := by
 unfold maxLen at hz
 go_enter Tryz.func22, Tryz.ntmps22
 go_wp2_with fail
 go_loop [8] (fun i => ∃ k : Nat, k ≤ zs.length ∧ i = .int .i64 k ∧ (∀ j, j < k → zs[j]? = some 0)) (fun i => zs.length - (intOf i).toNat)
 case atStart => exact ⟨0, Nat.zero_le _, rfl, by simp⟩
 case round =>
  obtain ⟨k, hk, rfl, hno⟩ := hrel
  have Hno := Lib.hid hno
  clear hno
  by_cases hkl : k < zs.length
  ·obtain ⟨g, o, rfl, hg, hc⟩ := h.nums (by omega)
   have c0 := hc k hkl
   have Hget := Lib.hid (List.getElem?_eq_getElem hkl)
   have Hor := Lib.hid (show orI zs = if zs[k] = 0 then orI (zs.drop (k + 1)) else zs[k] from by rw [orI_drop Hno.out hk, List.drop_eq_getElem_cons hkl]; rfl)
   obtain ⟨z, hz⟩ : ∃ z, zs[k] = z := ⟨_, rfl⟩
   rw [hz] at c0 Hget Hor
   clear hc hz
   by_cases he : z = 0
   ·subst he
    go_wp2
    refine ⟨⟨k + 1, by omega, by go_num, fun j hj => ?_⟩, by simp [intOf]; omega⟩
    rcases Nat.lt_succ_iff_lt_or_eq.1 hj with hj | rfl
    ·exact Hno.out j hj
    ·exact Hget.out
   ·have d1 : (z != 0) = true := by simpa using he
    have He := Lib.hid he
    clear he
    go_wp2
    go_ret
    exact ⟨ret_int (by rw [Hor.out, if_neg He.out]), rfl⟩
  ·go_wp2
   go_ret
   refine ⟨ret_int ?_, rfl⟩
   rw [orI_drop Hno.out hk, List.drop_of_length_le (by omega)]; rfl

end Go.Proofs.YtabocamjaecaaaaGreatDoor
