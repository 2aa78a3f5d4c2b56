/- EO · ER -/
import Derived.Test.YtfihjpffjdnahaaGreatDoorD6
import Derived.Test.YtfihjpffjdnahaaGreatDoorD8
import Derived.Test.YtfihjpffjdnahaaGreatDoorEF
import Derived.Test.YtfihjpffjdnahaaGreatDoorT3
/- A machine that the reference makes: its box, whose arcs are not there yet, its row of final states, and a row of arcs beside it. -/
namespace Go.Proofs.YtfihjpffjdnahaaGreatDoor
open Go.RowKit Classical

section
variable {w w' : World} {n0 bO : Nat} {st s0 : Int} {fl : List Int} {al : List Arc} {fv av v' : Value} {ob : Obj}
/-- The machine under way. -/
def RS (w : World) (n0 bO : Nat) (st s0 : Int) (fl : List Int) (al : List Arc) (fv av : Value) : Prop :=
 OutAt w n0 bO st s0 fl [] fv (.slice none 0 0) ∧ w.ownsRow n0 40 4 av al.length (flat al) ∧ n0 ≤ bO
theorem RS.below (h : RS w n0 bO st s0 fl al fv av) (hb : Below w.heap.size w w') : RS w' n0 bO st s0 fl al fv av := ⟨h.1.below hb, own_below h.2.1 hb, h.2.2⟩
theorem RS.arc_app (h : RS w n0 bO st s0 fl al fv av) {x : Arc} (hown : w'.ownsRow n0 40 4 v' (al.length + 1) (flat al ++ x.cells)) (hg : (w.alloc ob).grownBy w' av.ownBlock) :
  RS w' n0 bO st s0 fl (al ++ [x]) fv v' ∧ Below n0 w w' := by
 obtain ⟨h1, ha, hn⟩ := h
 have hlt := h1.blk.lt
 have k1 := (h1.blk.alloc ob).grown hg (fun e => (h1.blk.alloc ob).own_ne (ha.alloc ob) (by decide) e.symm)
 have k2 := own_kept_other (h1.fin.alloc ob) (ha.alloc ob) (by decide) hg
 refine ⟨⟨⟨k1, k2, World.ownsRow_nil _ _ _ _⟩, by rw [List.length_append, flat_append, flat_one]; exact hown, hn⟩, ?_⟩
 exact ((Below.refl _ _).alloc (by omega) ob).grown hg (by simp; omega) (fun j hj => (ha.lt j hj).1)
theorem RS.fin_app (h : RS w n0 bO st s0 fl al fv av) {x : Int} (hown : w'.ownsRow n0 3 1 v' (fl.length + 1) (nums fl ++ [.int .i64 x])) (hg : (w.alloc ob).grownBy w' fv.ownBlock) :
  RS (w'.setCell ⟨bO, 2, none⟩ v') n0 bO st s0 (fl ++ [x]) al v' av ∧ Below n0 w (w'.setCell ⟨bO, 2, none⟩ v') ∧ Blk w' bO #[.int .i64 st, .int .i64 s0, fv, .slice none 0 0] 25 := by
 obtain ⟨h1, ha, hn⟩ := h
 have hb : Below w.heap.size w (w.alloc ob) := (Below.refl _ _).alloc (Nat.le_refl _) _
 obtain ⟨k1, k2, -, k4⟩ := h1.fin_step hn hb hown hg
 have k5 := own_kept_other (ha.alloc ob) (h1.fin.alloc ob) (by decide) hg
 exact ⟨⟨k1, own_setCell k5 (p := ⟨bO, 2, none⟩) (k2.own_ne k5 (by decide)) _, hn⟩, k4, k2⟩
theorem RS.states (h : RS w n0 bO st s0 fl al fv av) (st' : Int) : RS (w.setCell ⟨bO, 0, none⟩ (.int .i64 st')) n0 bO st' s0 fl al fv av ∧ Below n0 w (w.setCell ⟨bO, 0, none⟩ (.int .i64 st')) := by
 obtain ⟨h1, ha, hn⟩ := h
 obtain ⟨k1, k2⟩ := h1.states hn st'
 exact ⟨⟨k1, own_setCell ha (p := ⟨bO, 0, none⟩) (h1.blk.own_ne ha (by decide)) _, hn⟩, k2⟩
/-- The sorted arcs are stored. -/
theorem RS.sorted (h : RS w n0 bO st s0 fl al fv av) {S : List Arc} (hb : Below w.heap.size w w') (hs : w'.ownsRow w.heap.size 40 4 v' S.length (flat S)) :
  Blk (w'.setCell ⟨bO, 3, none⟩ v') bO #[.int .i64 st, .int .i64 s0, fv, v'] 25 ∧ (w'.setCell ⟨bO, 3, none⟩ v').ownsRow n0 3 1 fv fl.length (nums fl) ∧
  (w'.setCell ⟨bO, 3, none⟩ v').ownsRow w.heap.size 40 4 v' S.length (flat S) ∧ Below n0 w (w'.setCell ⟨bO, 3, none⟩ v') ∧ Blk w' bO #[.int .i64 st, .int .i64 s0, fv, .slice none 0 0] 25 := by
 obtain ⟨h1, ha, hn⟩ := h
 have hlt := h1.blk.lt
 have k1 := h1.blk.below hb hlt
 have k2 := own_below h1.fin hb
 refine ⟨by have := k1.set_ 3 v'; simpa using this, own_setCell k2 (p := ⟨bO, 3, none⟩) (k1.own_ne k2 (by decide)) _, own_setCell hs (p := ⟨bO, 3, none⟩) (k1.own_ne hs (by decide)) _, ?_, k1⟩
 exact (hb.mono (by omega)).setCell (p := ⟨bO, 3, none⟩) hn _
end
end Go.Proofs.YtfihjpffjdnahaaGreatDoor

/- Walk: gazetteerref12.reached. -/
namespace Go.Proofs.YtfihjpffjdnahaaGreatDoor
open Go.RowKit Classical
attribute [local go_sem] undef_bool undef_bool'

/-- How many cells of a block are false. -/
def isFalse : Value → Bool
 | .bool false => true
 | _ => false
def falses (w : World) (f : Nat) : Nat := match w.heap[f]? with
 | some (.cells cs _) => cs.toList.countP isFalse
 | _ => 0
theorem falses_blk {w : World} {f : Nat} {ys : List Bool} {t : TypeId} (h : Blk w f (bools ys).toArray t) : falses w f = ys.count false := by
 unfold Blk at h
 unfold falses
 rw [h]
 show (bools ys).countP isFalse = _
 unfold bools List.count
 rw [List.countP_map]
 congr 1
 funext b
 cases b <;> rfl
def oneOf : Value → Nat
 | .bool true => 1
 | _ => 0

def RcdPost (M : Mach) (fr : List Int) (ag : Bool) (w : World) (e : Ending) (w' : World) : Prop :=
 ∃ (f n : Nat) (xs ys : List Bool), M.states = n ∧ e = .returned (.slice (some ⟨f, 0, none⟩) n n) ∧ xs.length = n ∧ (∀ u : Nat, Mk xs u ↔ (u : Int) ∈ fr) ∧
  Spread (if ag = true then backP M.arcs else onP M.arcs) xs ys ∧ Blk w' f (bools ys).toArray 4 ∧ w.heap.size ≤ f ∧ Below w.heap.size w w'
set_option maxRecDepth 100000 in
set_option maxHeartbeats 4000000 in
theorem reached12_any (M : Mach) (v : Value) (hv : ValidM M) (fr : List Int) (ra : Option Addr) (rc : Nat) (ag : Bool) (w : World) (h : MachAt w w.heap.size v M) (hr : RowAt w w.heap.size ra (nums fr)) (hrl : fr.length ≤ 4000) (hok : ∀ s ∈ fr, StateOk M.states s) :
  Calls Tryz.prog 50 #[v, .slice ra fr.length rc, .bool ag] w (RcdPost M fr ag w) := by
 obtain ⟨fa, fc, aa, ac, rfl, hfl, hal, -, ha⟩ := h
 obtain ⟨n, hn⟩ : ∃ n : Nat, M.states = n := ⟨M.states.toNat, by have := hv.one; omega⟩
 have hn4 : n ≤ 4000 := by have := hv.most; omega
 have hal4 := hv.arcsLen
 have hend : ∀ a ∈ M.arcs, ∃ p q : Nat, a.frm = p ∧ a.to = q ∧ p < n ∧ q < n := fun a h => by
  obtain ⟨q1, q2, _⟩ := hv.arcs a h
  rw [hn] at q1 q2
  obtain ⟨h1, h2⟩ := q1
  obtain ⟨h3, h4⟩ := q2
  exact ⟨a.frm.toNat, a.to.toNat, by omega, by omega, by omega, by omega⟩
 obtain ⟨W0, hW0⟩ : ∃ W0 : World, W0 = w.alloc (.cells #[.int .i64 M.states, .int .i64 M.start, .slice fa M.final.length fc, .slice aa M.arcs.length ac] 25) := ⟨_, rfl⟩
 have hw0 : Below w.heap.size w W0 := by rw [hW0]; exact (Below.refl _ _).alloc (Nat.le_refl _) _
 have hB0 : Blk W0 w.heap.size #[.int .i64 M.states, .int .i64 M.start, .slice fa M.final.length fc, .slice aa M.arcs.length ac] 25 := by rw [hW0]; exact Blk.new _ _ _
 have hlt0 := hB0.lt
 have HM := Lib.hid (fun (wr : World) (hbw : Below W0.heap.size W0 wr) => (show wr.cell? ⟨w.heap.size, 0, none⟩ = some (.int .i64 M.states) ∧ wr.cell? ⟨w.heap.size, 3, none⟩ = some (.slice aa M.arcs.length ac) from
  ⟨(hB0.below hbw hlt0).cell 0, (hB0.below hbw hlt0).cell 3⟩))
 have HA := Lib.hid (fun (wr : World) (hbw : Below W0.heap.size W0 wr) (k : Nat) (hk : k < M.arcs.length) => by
  obtain ⟨b, off, e, hb, hc⟩ := ha.arcs (by omega)
  have hx := hw0.trans (hbw.mono hw0.size)
  exact (⟨b, off, e, (hx.cell (p := ⟨b, off + k * 4, none⟩) hb).trans (hc k hk).1, (hx.cell (p := ⟨b, off + k * 4 + 3, none⟩) hb).trans (hc k hk).2.2.2⟩ :
   ∃ b off, aa = some ⟨b, off, none⟩ ∧ wr.cell? ⟨b, off + k * 4, none⟩ = some (.int .i64 M.arcs[k].frm) ∧ wr.cell? ⟨b, off + k * 4 + 3, none⟩ = some (.int .i64 M.arcs[k].to)))
 have HW0 := Lib.hid (And.intro hW0 hw0)
 obtain ⟨m0, m3⟩ := HM.out W0 (Below.refl _ _)
 rw [hn] at m0
 have Hend := Lib.hid hend
 have Hr := Lib.hid (And.intro (hr.below hw0 (Nat.le_refl _)) hok)
 have Hn := Lib.hid hn
 have Hv := Lib.hid hv
 obtain ⟨ib, hib, hib0, hib1, hib2⟩ := info_parts info_bool
 have hmk := fun W => run_mkrow (P := Tryz.prog) 85 4 ib (.bool false) Tryz.underlying85 hib hib0 .i64 .i64 n n (Nat.le_refl _) (by rw [hib2]; omega) (by omega) W
 rw [hib1] at hmk
 clear hW0 hw0 hB0 ha hn hend hr hok hv
 go_enter Tryz.func50, Tryz.ntmps50
 go_upto_region 1 with (fail)
 rw [← HW0.out.1]
 go_upto_region 2 with (fail)
 clear hmk m0 m3
 generalize hW1 : (W0.alloc _) = W1
 obtain ⟨f, hfe⟩ : ∃ f, W0.heap.size = f := ⟨_, rfl⟩
 have k1 : Blk W1 f (bools (List.replicate n false)).toArray 4 := by
  rw [← hW1, ← hfe, madeCells_bools]
  exact Blk.new _ _ _
 have h01 : Below W0.heap.size W0 W1 := by rw [← hW1]; exact (Below.refl _ _).alloc (Nat.le_refl _) _
 rw [hfe]
 have hwf : w.heap.size ≤ f := by have := HW0.out.2.size; omega
 have H1 := Lib.hid (And.intro k1 h01)
 clear hW1 k1 h01
 go_wp2_with fail
 go_loopw [8] (fun i wx => ∃ (k : Nat) (ys : List Bool), k ≤ fr.length ∧ i = .int .i64 k ∧ ys.length = n ∧ (∀ u : Nat, Mk ys u ↔ (u : Int) ∈ fr.take k) ∧ Blk wx f (bools ys).toArray 4 ∧ Below W0.heap.size W0 wx) (fun i _ => fr.length - (intOf i).toNat)
 case atStart => exact ⟨0, List.replicate n false, Nat.zero_le _, rfl, by simp, fun u => by simp [mk_none], H1.out.1, H1.out.2⟩
 case round =>
  obtain ⟨k, ys, hk, rfl, hyl, hys, hbt, hb⟩ := hrel
  have HY := Lib.hid (And.intro hys (And.intro hbt hb))
  by_cases hkf : k < fr.length
  ·obtain ⟨b, off, rfl, hb', hcf⟩ := (Hr.out.1.below hb (by have := HW0.out.2.size; omega)).nums (by omega)
   have x0 := hcf k hkf
   have hst := Hr.out.2 _ (List.getElem_mem hkf)
   rw [Hn.out] at hst
   obtain ⟨z, hz⟩ : ∃ z : Nat, fr[k] = z := ⟨(fr[k]).toNat, by have := hst.1; omega⟩
   have hzn : z < n := by have := hst.2; omega
   rw [hz] at x0
   have Hz := Lib.hid hz
   have tc := hbt.cell z
   have tf := hbt.frozen z
   have etc : (bools ys).toArray[z]? = some (.bool ys[z]) := by simp [bools, hyl, hzn]
   rw [etc] at tc
   clear etc hz hys hbt hcf hst hb
   go_wp2_with fail
   refine ⟨⟨k + 1, ys.set z true, by omega, by go_num, by simpa using hyl, fun u => ?_, by rw [← bools_set]; exact HY.out.2.1.set_ z _, HY.out.2.2.setCell (p := ⟨f, z, none⟩) (by show W0.heap.size ≤ f; omega) _⟩, by simp [intOf]; omega⟩
   rw [mk_set (by omega), List.take_add_one, List.getElem?_eq_getElem hkf, Hz.out, HY.out.1 u]
   constructor
   ·rintro (rfl | h)
    ·exact List.mem_append.2 (.inr (by simp))
    ·exact List.mem_append.2 (.inl h)
   ·intro h
    rcases List.mem_append.1 h with h | h
    ·exact .inr h
    ·exact .inl (by simp at h; omega)
  ·obtain rfl : k = fr.length := by omega
   obtain ⟨xs, rfl⟩ : ∃ xs, xs = ys := ⟨_, rfl⟩
   have hys' : ∀ u : Nat, Mk xs u ↔ (u : Int) ∈ fr := fun u => by rw [HY.out.1 u, List.take_length]
   have Hx := Lib.hid (And.intro hyl hys')
   obtain ⟨W2, rfl⟩ : ∃ W2 : World, W2 = wr := ⟨_, rfl⟩
   have H2 := Lib.hid (And.intro HY.out.2.1 HY.out.2.2)
   clear hys hys' hbt hb HY hyl hk hkf
   go_wp2_with fail
   go_loopw [9] (fun m wx => ∃ (b : Bool) (ys : List Bool), m = .bool b ∧ Rch (if ag = true then backP M.arcs else onP M.arcs) xs ys ∧ Blk wx f (bools ys).toArray 4 ∧ (b = false → ∀ p ∈ (if ag = true then backP M.arcs else onP M.arcs), Mk ys p.1.toNat → Mk ys p.2.toNat) ∧ Chg (fun j => j = f) W2 wx) (fun m wx => falses wx f + oneOf m)
   case atStart => exact ⟨true, xs, rfl, Rch.start _ _, H2.out.1, (fun h => by cases h), Chg.refl _ _⟩
   case round =>
    obtain ⟨b, ys, rfl, hrch, hbk, hcl, hc⟩ := hrel
    have HI := Lib.hid (And.intro hrch (And.intro hbk (And.intro hcl hc)))
    clear hrch hbk hcl hc
    cases b with
    | false =>
     have hpos : ∀ p ∈ (if ag = true then backP M.arcs else onP M.arcs), 0 ≤ p.1 ∧ 0 ≤ p.2 := fun p hp => by
      cases ag with
      | false =>
       obtain ⟨a, ha, rfl⟩ := List.mem_map.1 (show p ∈ onP M.arcs from hp)
       obtain ⟨q1, q2, e1, e2, _⟩ := Hend.out a ha
       simp only [e1, e2]; omega
      | true =>
       obtain ⟨a, ha, rfl⟩ := List.mem_map.1 (show p ∈ backP M.arcs from hp)
       obtain ⟨q1, q2, e1, e2, _⟩ := Hend.out a ha
       simp only [e1, e2]; omega
     have Hsp := Lib.hid (HI.out.1.done hpos (HI.out.2.2.1 rfl))
     have hbF : Below w.heap.size w wr := HW0.out.2.trans ((H2.out.2.trans (HI.out.2.2.2.below (B := W0.heap.size) (fun j hj => by omega) H2.out.2.size)).mono HW0.out.2.size)
     clear hpos
     go_wp2_with fail
     go_ret
     exact ⟨f, n, xs, ys, Hn.out, by simp, Hx.out.1, Hx.out.2, Hsp.out, HI.out.2.1, hwf, hbF⟩
    | true =>
     obtain ⟨W3, rfl⟩ : ∃ W3 : World, W3 = wr := ⟨_, rfl⟩
     have hfy := falses_blk HI.out.2.1
     have Hfy := Lib.hid hfy
     have HO := HI
     clear HI hfy
     go_wp2_with fail
     go_loopw [9, 10] (fun m i wx => ∃ (k : Nat) (b : Bool) (ys' : List Bool), k ≤ M.arcs.length ∧ i = .int .i64 k ∧ m = .bool b ∧ Rch (if ag = true then backP M.arcs else onP M.arcs) xs ys' ∧ Blk wx f (bools ys').toArray 4 ∧
      (b = false → ys' = ys ∧ ∀ p ∈ (if ag = true then backP M.arcs else onP M.arcs).take k, Mk ys p.1.toNat → Mk ys p.2.toNat) ∧ (b = true → ys'.count false < ys.count false) ∧ Chg (fun j => j = f) W2 wx) (fun _ i _ => M.arcs.length - (intOf i).toNat)
     case atStart => exact ⟨0, false, ys, Nat.zero_le _, rfl, rfl, HO.out.1, HO.out.2.1, fun _ => ⟨rfl, fun p hp => by simp at hp⟩, (fun h => by cases h), HO.out.2.2.2⟩
     case round =>
      obtain ⟨k, b, ys', hk, rfl, rfl, hrch, hbk, hcl, hct, hc⟩ := hrel
      have HI := Lib.hid (And.intro hrch (And.intro hbk (And.intro hcl (And.intro hct hc))))
      clear hrch hbk hcl hct hc
      have hbR : Below W0.heap.size W0 wr := H2.out.2.trans (HI.out.2.2.2.2.below (B := W0.heap.size) (fun j hj => by omega) H2.out.2.size)
      obtain ⟨m0, m3⟩ := HM.out wr hbR
      by_cases hkl : k < M.arcs.length
      ·obtain ⟨bb, off, rfl, x0, x3⟩ := HA.out wr hbR k hkl
       obtain ⟨p, q, e1, e2, hp, hq⟩ := Hend.out _ (List.getElem_mem hkl)
       have hton : (onP M.arcs).take (k + 1) = (onP M.arcs).take k ++ [((p : Int), (q : Int))] := by
        rw [List.take_add_one, onP, List.getElem?_map, List.getElem?_eq_getElem hkl]
        simp only [Option.map_some, Option.toList_some, e1, e2]
       have htob : (backP M.arcs).take (k + 1) = (backP M.arcs).take k ++ [((q : Int), (p : Int))] := by
        rw [List.take_add_one, backP, List.getElem?_map, List.getElem?_eq_getElem hkl]
        simp only [Option.map_some, Option.toList_some, e1, e2]
       rw [e1] at x0
       rw [e2] at x3
       clear e1 e2 hbR
       cases ag with
       | false =>
        have hpair : (if false = true then backP M.arcs else onP M.arcs).take (k + 1) = (if false = true then backP M.arcs else onP M.arcs).take k ++ [((p : Int), (q : Int))] := hton
        obtain ⟨s, rfl⟩ : ∃ s, s = p := ⟨_, rfl⟩
        obtain ⟨t, rfl⟩ : ∃ t, t = q := ⟨_, rfl⟩
        have ht : t < n := hq
        clear hton htob
        have hs : s < n := by omega
        have tcs := HI.out.2.1.cell s
        have tct := HI.out.2.1.cell t
        have tft := HI.out.2.1.frozen t
        have hyl : ys'.length = n := by rw [HI.out.1.len, Hx.out.1]
        have ets : (bools ys').toArray[s]? = some (.bool ys'[s]) := by simp [bools, hyl, hs]
        have ett : (bools ys').toArray[t]? = some (.bool ys'[t]) := by simp [bools, hyl, ht]
        rw [ets] at tcs
        rw [ett] at tct
        have hes : ys'[s]? = some ys'[s] := List.getElem?_eq_getElem (by omega)
        have het : ys'[t]? = some ys'[t] := List.getElem?_eq_getElem (by omega)
        obtain ⟨c, hc⟩ : ∃ c, ys'[s] = c := ⟨_, rfl⟩
        obtain ⟨d, hd⟩ : ∃ d, ys'[t] = d := ⟨_, rfl⟩
        rw [hc] at tcs hes
        rw [hd] at tct het
        have HE := Lib.hid (And.intro hes (And.intro het hyl))
        have HP := Lib.hid hpair
        clear ets ett hes het hc hd hyl hpair
        have hkeep : (c = false ∨ d = true) → (b = false → ys' = ys ∧ ∀ p ∈ (if false = true then backP M.arcs else onP M.arcs).take (k + 1), Mk ys p.1.toNat → Mk ys p.2.toNat) := fun hcd hb => by
         obtain ⟨e, hcl⟩ := HI.out.2.2.1 hb
         refine ⟨e, fun p hp hm => ?_⟩
         rw [HP.out] at hp
         rcases List.mem_append.1 hp with hp | hp
         ·exact hcl p hp hm
         ·obtain rfl := List.mem_singleton.1 hp
          simp only [Int.toNat_natCast] at hm ⊢
          rw [← e] at hm ⊢
          rcases hcd with rfl | rfl
          ·rw [Mk, HE.out.1] at hm; cases hm
          ·exact HE.out.2.1
        have HK := Lib.hid hkeep
        clear hkeep
        cases c with
        | false =>
         go_wp2_with fail
         exact ⟨⟨k + 1, b, ys', by omega, by go_num, rfl, HI.out.1, HI.out.2.1, HK.out (.inl rfl), HI.out.2.2.2.1, HI.out.2.2.2.2⟩, by simp [intOf]; omega⟩
        | true =>
         cases d with
         | true =>
          go_wp2_with fail
          exact ⟨⟨k + 1, b, ys', by omega, by go_num, rfl, HI.out.1, HI.out.2.1, HK.out (.inr rfl), HI.out.2.2.2.1, HI.out.2.2.2.2⟩, by simp [intOf]; omega⟩
         | false =>
          have hpr : Pr (if false = true then backP M.arcs else onP M.arcs) (s : Int) (t : Int) := List.take_subset (k + 1) _ (by rw [HP.out]; exact List.mem_append.2 (.inr (List.mem_singleton.2 rfl)))
          have hset := HI.out.1.set (a := s) (b := t) HE.out.1 (by have := HE.out.2.2; omega) hpr
          have hcnt := count_mark HE.out.2.1
          have hcnt2 : (ys'.set t true).count false < ys.count false := by
           cases b with
           | false => rw [(HI.out.2.2.1 rfl).1] at hcnt ⊢; exact hcnt
           | true => have := HI.out.2.2.2.1 rfl; omega
          have HS := Lib.hid (And.intro hset hcnt2)
          clear hpr hset hcnt hcnt2
          go_wp2_with fail
          exact ⟨⟨k + 1, true, ys'.set t true, by omega, by go_num, rfl, HS.out.1, by rw [← bools_set]; exact HI.out.2.1.set_ t _, (fun h => by cases h), fun _ => HS.out.2, HI.out.2.2.2.2.trans (Chg.setCell (S := fun j => j = f) (p := ⟨f, t, none⟩) _ (.inl rfl) _)⟩, by simp [intOf]; omega⟩
       | true =>
        have hpair : (if true = true then backP M.arcs else onP M.arcs).take (k + 1) = (if true = true then backP M.arcs else onP M.arcs).take k ++ [((q : Int), (p : Int))] := htob
        obtain ⟨s, rfl⟩ : ∃ s, s = q := ⟨_, rfl⟩
        obtain ⟨t, rfl⟩ : ∃ t, t = p := ⟨_, rfl⟩
        have ht : t < n := hp
        clear hton htob
        have hs : s < n := by omega
        have tcs := HI.out.2.1.cell s
        have tct := HI.out.2.1.cell t
        have tft := HI.out.2.1.frozen t
        have hyl : ys'.length = n := by rw [HI.out.1.len, Hx.out.1]
        have ets : (bools ys').toArray[s]? = some (.bool ys'[s]) := by simp [bools, hyl, hs]
        have ett : (bools ys').toArray[t]? = some (.bool ys'[t]) := by simp [bools, hyl, ht]
        rw [ets] at tcs
        rw [ett] at tct
        have hes : ys'[s]? = some ys'[s] := List.getElem?_eq_getElem (by omega)
        have het : ys'[t]? = some ys'[t] := List.getElem?_eq_getElem (by omega)
        obtain ⟨c, hc⟩ : ∃ c, ys'[s] = c := ⟨_, rfl⟩
        obtain ⟨d, hd⟩ : ∃ d, ys'[t] = d := ⟨_, rfl⟩
        rw [hc] at tcs hes
        rw [hd] at tct het
        have HE := Lib.hid (And.intro hes (And.intro het hyl))
        have HP := Lib.hid hpair
        clear ets ett hes het hc hd hyl hpair
        have hkeep : (c = false ∨ d = true) → (b = false → ys' = ys ∧ ∀ p ∈ (if true = true then backP M.arcs else onP M.arcs).take (k + 1), Mk ys p.1.toNat → Mk ys p.2.toNat) := fun hcd hb => by
         obtain ⟨e, hcl⟩ := HI.out.2.2.1 hb
         refine ⟨e, fun p hp hm => ?_⟩
         rw [HP.out] at hp
         rcases List.mem_append.1 hp with hp | hp
         ·exact hcl p hp hm
         ·obtain rfl := List.mem_singleton.1 hp
          simp only [Int.toNat_natCast] at hm ⊢
          rw [← e] at hm ⊢
          rcases hcd with rfl | rfl
          ·rw [Mk, HE.out.1] at hm; cases hm
          ·exact HE.out.2.1
        have HK := Lib.hid hkeep
        clear hkeep
        cases c with
        | false =>
         go_wp2_with fail
         exact ⟨⟨k + 1, b, ys', by omega, by go_num, rfl, HI.out.1, HI.out.2.1, HK.out (.inl rfl), HI.out.2.2.2.1, HI.out.2.2.2.2⟩, by simp [intOf]; omega⟩
        | true =>
         cases d with
         | true =>
          go_wp2_with fail
          exact ⟨⟨k + 1, b, ys', by omega, by go_num, rfl, HI.out.1, HI.out.2.1, HK.out (.inr rfl), HI.out.2.2.2.1, HI.out.2.2.2.2⟩, by simp [intOf]; omega⟩
         | false =>
          have hpr : Pr (if true = true then backP M.arcs else onP M.arcs) (s : Int) (t : Int) := List.take_subset (k + 1) _ (by rw [HP.out]; exact List.mem_append.2 (.inr (List.mem_singleton.2 rfl)))
          have hset := HI.out.1.set (a := s) (b := t) HE.out.1 (by have := HE.out.2.2; omega) hpr
          have hcnt := count_mark HE.out.2.1
          have hcnt2 : (ys'.set t true).count false < ys.count false := by
           cases b with
           | false => rw [(HI.out.2.2.1 rfl).1] at hcnt ⊢; exact hcnt
           | true => have := HI.out.2.2.2.1 rfl; omega
          have HS := Lib.hid (And.intro hset hcnt2)
          clear hpr hset hcnt hcnt2
          go_wp2_with fail
          exact ⟨⟨k + 1, true, ys'.set t true, by omega, by go_num, rfl, HS.out.1, by rw [← bools_set]; exact HI.out.2.1.set_ t _, (fun h => by cases h), fun _ => HS.out.2, HI.out.2.2.2.2.trans (Chg.setCell (S := fun j => j = f) (p := ⟨f, t, none⟩) _ (.inl rfl) _)⟩, by simp [intOf]; omega⟩
      ·obtain rfl : k = M.arcs.length := by omega
       clear hkl hk
       have hll : (if ag = true then backP M.arcs else onP M.arcs).take M.arcs.length = (if ag = true then backP M.arcs else onP M.arcs) := by
        cases ag <;> exact List.take_of_length_le (by simp [onP, backP])
       rw [hll] at HI
       have hf2 := falses_blk HI.out.2.1
       have Hfe := Lib.hid (show falses wr f + oneOf (.bool b) < falses W3 f + oneOf (.bool true) from by
        rw [hf2, Hfy.out]
        cases b with
        | false => rw [(HI.out.2.2.1 rfl).1]; simp [oneOf]
        | true => have := HI.out.2.2.2.1 rfl; simp [oneOf]; omega)
       have hcl : b = false → ∀ p ∈ (if ag = true then backP M.arcs else onP M.arcs), Mk ys' p.1.toNat → Mk ys' p.2.toNat := fun hb => by
        obtain ⟨e, h⟩ := HI.out.2.2.1 hb
        rw [e]; exact h
       have Hcl := Lib.hid hcl
       clear hf2 hll hcl
       go_wp2_with fail
       exact ⟨⟨b, ys', rfl, HI.out.1, HI.out.2.1, Hcl.out, HI.out.2.2.2.2⟩, Hfe.out⟩
end Go.Proofs.YtfihjpffjdnahaaGreatDoor
