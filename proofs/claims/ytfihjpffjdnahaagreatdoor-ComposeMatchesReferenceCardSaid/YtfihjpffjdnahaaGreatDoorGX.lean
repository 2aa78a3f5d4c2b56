/- W12b · W12c · Or -/
import Derived.Test.YtfihjpffjdnahaaGreatDoorGI
import Derived.Deep.DeepCutAuto
import Derived.Deep.CutBlock
import Derived.IntWalk
/- Walk of the reference's sorting of arcs (gazetteerref12.Sorted). -/
namespace Go.Proofs.YtfihjpffjdnahaaGreatDoor
open Go.RowKit Classical

def SortedPost (l : List Arc) (w : World) (e : Ending) (w' : World) : Prop :=
 ∃ v S, e = .returned v ∧ Increasing S ∧ (∀ y, y ∈ S ↔ y ∈ l) ∧ w'.ownsRow w.heap.size 40 4 v S.length (flat S) ∧ Below w.heap.size w w'

def SortRel (l : List Arc) (w : World) (out i : Value) (wr : World) : Prop :=
 ∃ (k : Nat) (S : List Arc), k ≤ l.length ∧ i = .int .i64 k ∧ Increasing S ∧ (∀ y, y ∈ S ↔ y ∈ l.take k) ∧ S.length ≤ k ∧ wr.ownsRow w.heap.size 40 4 out S.length (flat S) ∧ Below w.heap.size w wr

theorem mem_take_succ (l : List Arc) (k : Nat) (h : k < l.length) (y : Arc) : y ∈ l.take (k + 1) ↔ y ∈ l.take k ∨ y = l[k] := by
 rw [List.take_add_one, List.getElem?_eq_getElem h, List.mem_append]; simp

theorem own_succ {W : World} {base : Nat} {e : TypeId} {size : Nat} {v : Value} {k : Nat} {xs : List Value} (h : W.ownsRow base e size v (k + 1) xs) : ∃ g cap, v = .slice (some ⟨g, 0, none⟩) (k + 1) cap := by
 rcases h.2 with ⟨_, h0⟩ | ⟨g, cap, _, rfl, _⟩
 ·omega
 ·exact ⟨g, cap, rfl⟩

theorem own_set_arc {w : World} {base : Nat} {e : TypeId} {g n cap : Nat} {L : List Arc} (h : w.ownsRow base e 4 (.slice (some ⟨g, 0, none⟩) n cap) n (flat L)) (i : Nat) (x : Arc) (hi : i < L.length) :
  ((((w.setCell ⟨g, i * 4, none⟩ (.int .i64 x.frm)).setCell ⟨g, i * 4 + 1, none⟩ (.int .i64 x.inp)).setCell ⟨g, i * 4 + 2, none⟩ (.int .i64 x.out)).setCell ⟨g, i * 4 + 3, none⟩ (.int .i64 x.to)).ownsRow base e 4 (.slice (some ⟨g, 0, none⟩) n cap) n (flat (L.set i x)) := by
 have h1 := (h.stored (i * 4) (.int .i64 x.frm)).1
 have h2 := (h1.stored (i * 4 + 1) (.int .i64 x.inp)).1
 have h3 := (h2.stored (i * 4 + 2) (.int .i64 x.out)).1
 have h4 := (h3.stored (i * 4 + 3) (.int .i64 x.to)).1
 rw [flat_set L i x hi] at h4
 exact h4
theorem own_arc_cells {w : World} {base : Nat} {e : TypeId} {g n cap : Nat} {L : List Arc} (h : w.ownsRow base e 4 (.slice (some ⟨g, 0, none⟩) n cap) n (flat L)) (i : Nat) (x : Arc) (hx : L[i]? = some x) :
  w.cell? ⟨g, i * 4, none⟩ = some (.int .i64 x.frm) ∧ w.cell? ⟨g, i * 4 + 1, none⟩ = some (.int .i64 x.inp) ∧ w.cell? ⟨g, i * 4 + 2, none⟩ = some (.int .i64 x.out) ∧ w.cell? ⟨g, i * 4 + 3, none⟩ = some (.int .i64 x.to) := by
 have hn : L.length = n := by have := h.1; rw [flat_length] at this; omega
 have hi := (List.getElem?_eq_some_iff.1 hx).1
 obtain ⟨h0, h1, h2, h3⟩ := flat_get L i x hx
 refine ⟨?_, ?_, ?_, ?_⟩
 ·rw [h.cellAt _ (by omega), h0]
 ·rw [h.cellAt _ (by omega), h1]
 ·rw [h.cellAt _ (by omega), h2]
 ·rw [h.cellAt _ (by omega), h3]
theorem set_shift (S : List Arc) (p : Nat) (hp : p < S.length) (y : Arc) : (S.take (p + 1) ++ y :: S.drop (p + 1)).set (p + 1) S[p] = S.take p ++ S[p] :: S.drop p := by
 rw [List.set_append_right _ _ (by rw [List.length_take]; omega), List.length_take, show p + 1 - min (p + 1) S.length = 0 from by omega, List.set_cons_zero,
  List.take_add_one, List.getElem?_eq_getElem hp, List.append_assoc, ← List.drop_eq_getElem_cons hp]
 rfl
theorem set_last (S : List Arc) (m : Nat) (hm : m ≤ S.length) (x y : Arc) : (S.take m ++ y :: S.drop m).set m x = S.take m ++ x :: S.drop m := by
 rw [List.set_append_right _ _ (by rw [List.length_take]; omega), List.length_take, show m - min m S.length = 0 from by omega, List.set_cons_zero]

theorem cells_new (w : World) (cs : List Value) (t : TypeId) : ∀ j u, cs[j]? = some u → (w.alloc (.cells cs.toArray t)).cell? ((⟨w.heap.size, 0, none⟩ : Addr).add j) = some u := by
 intro j u h
 have := Box.new w cs t j u h
 unfold Addr.add
 split
 ·rename_i e; subst e; exact this
 ·simpa using this

set_option maxRecDepth 100000 in
set_option maxHeartbeats 2000000 in
theorem Sorted12_any (l : List Arc) (la : Option Addr) (lc : Nat) (hlen : l.length ≤ 4000000000000) (w : World) (hl : RowAt w w.heap.size la (flat l)) :
  Calls Tryz.prog 28 #[.slice la l.length lc] w (SortedPost l w) := by
 obtain ⟨i0, hi, hz0, hz1, hz2⟩ := info_parts info_arc
 go_enter Tryz.func28, Tryz.ntmps28
 go_wp2_with fail
 go_loopw [3, 4] (fun out i wr => SortRel l w out i wr) (fun _ i _ => l.length - (intOf i).toNat)
 case atStart => exact ⟨0, [], Nat.zero_le _, rfl, List.Pairwise.nil, by simp, by simp, World.ownsRow_nil _ _ _ _, Below.refl _ _⟩
 case round =>
  obtain ⟨k, S, hk, rfl, hinc, hmem, hSk, hown, hbw⟩ := hrel
  obtain ⟨ua, uc, rfl, _, hrow⟩ := RowAt.of_own hown
  have hown' := Lib.hid hown
  have H := Lib.hid (And.intro hinc hmem)
  clear hinc hmem hown
  by_cases hkl : k < l.length
  ·obtain ⟨b, off, rfl, hb, hc⟩ := hl.arcs (by omega)
   have hx := fun wr' (hbx : Below w.heap.size w wr') => (And.intro ((hbx.cell (p := ⟨b, off + k * 4, none⟩) hb).trans (hc k hkl).1) (And.intro ((hbx.cell (p := ⟨b, off + k * 4 + 1, none⟩) hb).trans (hc k hkl).2.1)
    (And.intro ((hbx.cell (p := ⟨b, off + k * 4 + 2, none⟩) hb).trans (hc k hkl).2.2.1) ((hbx.cell (p := ⟨b, off + k * 4 + 3, none⟩) hb).trans (hc k hkl).2.2.2))))
   obtain ⟨x, hxe⟩ : ∃ x, x = l[k] := ⟨_, rfl⟩
   rw [← hxe] at hx
   have HX := Lib.hid hx
   have Hxe := Lib.hid hxe
   clear hx hc hxe
   obtain ⟨wo, rfl⟩ : ∃ wo : World, wo = wr := ⟨_, rfl⟩
   go_upto_block 2 with (fail)
   go_cut [5] (fun c5 wx => ∃ m : Nat, m ≤ S.length ∧ c5 = .int .i64 m ∧ (∀ (j : Nat) y, m ≤ j → S[j]? = some y → x.lt y) ∧ (∀ y, 0 < m → S[m - 1]? = some y → ¬ x.lt y) ∧ Below wo.heap.size wo wx)
   case first =>
    go_wp2_with fail
    go_loopw [5] (fun c5 wx => ∃ m : Nat, m ≤ S.length ∧ c5 = .int .i64 m ∧ (∀ (j : Nat) y, m ≤ j → S[j]? = some y → x.lt y) ∧ Below wo.heap.size wo wx) (fun c5 _ => (intOf c5).toNat)
    case atStart => exact ⟨S.length, Nat.le_refl _, rfl, fun j y hj hy => by have := (List.getElem?_eq_some_iff.1 hy).1; omega, Below.refl _ _⟩
    case round =>
     obtain ⟨m, hm, rfl, hgt, hbx⟩ := hrel
     have Hgt := Lib.hid hgt
     clear hgt
     have hwr := hbw.trans (hbx.mono hbw.size)
     obtain ⟨x0, x1, x2, x3⟩ := HX.out wr hwr
     rcases m with _ | p
     ·have d1 : decide ((0 : Int) < (0 : Int)) = false := rfl
      go_wp2_with fail
      go_quiet (fail)
      go_wp2_with fail
      go_meet
      exact ⟨0, Nat.zero_le _, rfl, Hgt.out, by simp, below_drewN hbx _⟩
     ·obtain ⟨g, o, rfl, hg, hcs⟩ := hrow.arcs (by omega)
      have hcp := hcs p (by omega)
      have y0 := (hbx.cell (p := ⟨g, o + p * 4, none⟩) hg).trans hcp.1
      have y1 := (hbx.cell (p := ⟨g, o + p * 4 + 1, none⟩) hg).trans hcp.2.1
      have y2 := (hbx.cell (p := ⟨g, o + p * 4 + 2, none⟩) hg).trans hcp.2.2.1
      have y3 := (hbx.cell (p := ⟨g, o + p * 4 + 3, none⟩) hg).trans hcp.2.2.2
      clear hcp hcs
      have d1 : decide ((0 : Int) < (p : Int) + 1) = true := decide_eq_true (by omega)
      have hwp : IntKind.i64.wrap (p : Int) = p := IntWalk.i64_in _ (by omega)
      have hps : p < S.length := by omega
      go_wp2_with fail
      refine wp_region_still_tail 12 (by kernel_rfl) (by kernel_rfl) ?_
      simp only [List.take_succ_cons, List.take_zero, List.drop_succ_cons, List.drop_zero]
      repeat still_step
      refine wpStill_nil ?_
      change wpList _ _ _ _ _ wr.drew
      clear hwp
      by_cases hlt : x.lt S[p]
      ·go_wp2_with (go_at_call 49; refine (before12_yes _ _ hlt _).mono ?_; rintro e w1 ⟨rfl, hb1⟩)
       refine ⟨⟨p, by omega, by go_num, fun j y hj hy => ?_, hbx.drew.trans (hb1.mono hbx.size)⟩, by simp [intOf]⟩
       rcases Nat.eq_or_lt_of_le hj with rfl | hj
       ·rw [List.getElem?_eq_getElem (by omega)] at hy
        obtain rfl := Option.some.inj hy
        exact hlt
       ·exact Hgt.out j y hj hy
      ·go_wp2_with (go_at_call 49; refine (before12_no _ _ hlt _).mono ?_; rintro e w1 ⟨rfl, hb1⟩)
       go_meet
       refine ⟨p + 1, hm, by go_num, Hgt.out, fun y _ hy => ?_, hbx.drew.trans (hb1.mono hbx.size)⟩
       rw [show p + 1 - 1 = p from rfl, List.getElem?_eq_getElem (by omega)] at hy
       obtain rfl := Option.some.inj hy
       exact hlt
   case rest =>
    obtain ⟨m, hm, rfl, hgt, hle, hbx⟩ := hcut
    have Hg := Lib.hid (And.intro hgt hle)
    clear hgt hle
    have hwr := hbw.trans (hbx.mono hbw.size)
    obtain ⟨wk, rfl⟩ : ∃ wk : World, wk = wc := ⟨_, rfl⟩
    go_upto_region 8 with (fail)
    go_cut [44] (fun b44 wx => b44 = .bool (decide (0 < m ∧ S[m - 1]? = some x)) ∧ ∃ q, wx = wk.drewN q)
    case first =>
     obtain ⟨x0, x1, x2, x3⟩ := HX.out wk hwr
     rcases m with _ | p
     ·have d1 : decide ((0 : Int) < (0 : Int)) = false := rfl
      go_quiet (fail)
      go_wp2_with fail
      go_meet
      exact ⟨by simp, _, rfl⟩
     ·have hps : p < S.length := by omega
      obtain ⟨g, o, rfl, hg, hcs⟩ := hrow.arcs (by omega)
      have hcp := hcs p hps
      have y0 := (hbx.cell (p := ⟨g, o + p * 4, none⟩) hg).trans hcp.1
      have y1 := (hbx.cell (p := ⟨g, o + p * 4 + 1, none⟩) hg).trans hcp.2.1
      have y2 := (hbx.cell (p := ⟨g, o + p * 4 + 2, none⟩) hg).trans hcp.2.2.1
      have y3 := (hbx.cell (p := ⟨g, o + p * 4 + 3, none⟩) hg).trans hcp.2.2.2
      clear hcp hcs
      have d1 : decide ((0 : Int) < (p : Int) + 1) = true := decide_eq_true (by omega)
      have hwp : IntKind.i64.wrap (p : Int) = p := IntWalk.i64_in _ (by omega)
      have hq := eql_arc S[p] x
      have hgd := guard_arc
      go_wp2_with fail
      go_quiet (fail)
      clear hwp
      go_wp2_with fail
      go_meet
      exact ⟨by simp [List.getElem?_eq_getElem hps], _, rfl⟩
    case rest =>
     obtain ⟨rfl, q, hwq⟩ := hcut
     have hby : Below wo.heap.size wo wc := hwq ▸ below_drewN hbx q
     have hwy : Below w.heap.size w wc := hwq ▸ below_drewN hwr q
     have howny := own_below hown'.out hby
     clear hwq hbx hwr
     by_cases hfound : 0 < m ∧ S[m - 1]? = some x
     ·have d1 : decide (0 < m ∧ S[m - 1]? = some x) = true := decide_eq_true hfound
      rw [d1]
      have Hf := Lib.hid hfound
      clear hfound d1
      go_wp2
      refine ⟨⟨k + 1, S, by omega, by go_num, H.out.1, fun y => ?_, by omega, howny, hwy⟩, by simp [intOf]; omega⟩
      rw [mem_take_succ l k hkl, ← Hxe.out, ← H.out.2]
      exact ⟨.inl, fun h => h.elim id (fun e => e ▸ List.mem_of_getElem? Hf.out.2)⟩
     ·have d1 : decide (0 < m ∧ S[m - 1]? = some x) = false := decide_eq_false hfound
      rw [d1]
      have Hf := Lib.hid hfound
      clear hfound d1
      have hsy := hwy.size
      go_wp2_with (at_builtin; refine wpList_append_own _ rfl _ _ 23 rfl w.heap.size 40 i0 _ 4 32 Tryz.underlying23 hi hz0 hz1 hz2 rfl (by decide) _ _ _ rfl (howny.alloc _) ⟨wc.heap.size, 0, none⟩ 1 1 [.int .i64 0, .int .i64 0, .int .i64 0, .int .i64 0] rfl rfl ?c1 ?c2 ?c3 ?c4 ?c5 ?_)
      case c1 => exact cells_new _ _ _
      case c2 => simp [Value.oneCell']
      case c3 => unfold maxLen; omega
      case c4 => omega
      case c5 => simp; omega
      intro v' w2 hown2 hgrow2 _
      obtain ⟨g, cap, rfl⟩ := own_succ hown2
      have hb2 : Below w.heap.size w w2 := (hwy.alloc (by omega) _).grown hgrow2 (by simp; omega) (fun k hk => (howny.lt k hk).1)
      have hown3 : w2.ownsRow w.heap.size 40 4 (.slice (some ⟨g, 0, none⟩) (S.length + 1) cap) (S.length + 1) (flat (S.take S.length ++ ⟨0, 0, 0, 0⟩ :: S.drop S.length)) := by
       rw [List.take_length, List.drop_length, flat_append]; exact hown2
      have Ho := Lib.hid hown3
      clear hown2 hgrow2 hown3 howny hown' hrow
      go_wp2_with fail
      go_loopw [6] (fun j6 wx => ∃ (j : Nat) (y : Arc), m ≤ j ∧ j ≤ S.length ∧ j6 = .int .i64 j ∧ wx.ownsRow w.heap.size 40 4 (.slice (some ⟨g, 0, none⟩) (S.length + 1) cap) (S.length + 1) (flat (S.take j ++ y :: S.drop j)) ∧ Below w.heap.size w wx) (fun j6 _ => (intOf j6).toNat)
      case atStart => exact ⟨S.length, _, hm, Nat.le_refl _, by go_num, Ho.out, hb2⟩
      case round =>
       obtain ⟨j, y, hmj, hj, rfl, hownj, hbj⟩ := hrel
       have Hoj := Lib.hid hownj
       clear hownj
       have hlen2 : (S.take j ++ y :: S.drop j).length = S.length + 1 := by simp; omega
       have hlj := Lib.hid hlen2
       clear hlen2
       have hgb := (Hoj.out.lt g rfl).1
       by_cases hjm : m < j
       ·obtain ⟨p, rfl⟩ : ∃ p, j = p + 1 := ⟨j - 1, by omega⟩
        have hps : p < S.length := by omega
        have hgp : (S.take (p + 1) ++ y :: S.drop (p + 1))[p]? = some S[p] := by
         rw [List.getElem?_append_left (by rw [List.length_take]; omega), List.getElem?_take, if_pos (by omega), List.getElem?_eq_getElem hps]
        have hgq : (S.take (p + 1) ++ y :: S.drop (p + 1))[p + 1]? = some y := by
         rw [List.getElem?_append_right (by rw [List.length_take]; omega), List.length_take, show p + 1 - min (p + 1) S.length = 0 from by omega]; rfl
        obtain ⟨y0, y1, y2, y3⟩ := own_arc_cells Hoj.out p _ hgp
        obtain ⟨z0, z1, z2, z3⟩ := own_arc_cells Hoj.out (p + 1) _ hgq
        have f0 := Hoj.out.frozenAt ((p + 1) * 4)
        have f1 := Hoj.out.frozenAt ((p + 1) * 4 + 1)
        have f2 := Hoj.out.frozenAt ((p + 1) * 4 + 2)
        have f3 := Hoj.out.frozenAt ((p + 1) * 4 + 3)
        clear hgp hgq
        go_wp2
        refine ⟨⟨p, S[p], by omega, by omega, rfl, ?_, (((hbj.setCell (p := ⟨g, (p + 1) * 4, none⟩) hgb _).setCell (p := ⟨g, (p + 1) * 4 + 1, none⟩) hgb _).setCell (p := ⟨g, (p + 1) * 4 + 2, none⟩) hgb _).setCell (p := ⟨g, (p + 1) * 4 + 3, none⟩) hgb _⟩, by simp [intOf]⟩
        have := own_set_arc Hoj.out (p + 1) S[p] (by rw [hlj.out]; omega)
        rwa [set_shift S p hps] at this
       ·obtain rfl : j = m := by omega
        obtain ⟨x0, x1, x2, x3⟩ := HX.out wr hbj
        have hgq : (S.take j ++ y :: S.drop j)[j]? = some y := by
         rw [List.getElem?_append_right (by rw [List.length_take]; omega), List.length_take, show j - min j S.length = 0 from by omega]; rfl
        obtain ⟨z0, z1, z2, z3⟩ := own_arc_cells Hoj.out j _ hgq
        have f0 := Hoj.out.frozenAt (j * 4)
        have f1 := Hoj.out.frozenAt (j * 4 + 1)
        have f2 := Hoj.out.frozenAt (j * 4 + 2)
        have f3 := Hoj.out.frozenAt (j * 4 + 3)
        clear hgq
        go_wp2
        have hlt : ∀ y, 0 < j → S[j - 1]? = some y → y.lt x := fun y h0 hy => by
         refine Classical.byContradiction fun h => ?_
         have e : y = x := Arc.eq_of_not_lt h (Hg.out.2 y h0 hy)
         subst e
         exact Hf.out ⟨h0, hy⟩
        refine ⟨⟨k + 1, S.take j ++ x :: S.drop j, by omega, by go_num, H.out.1.put x j hm Hg.out.1 hlt, fun z => ?_, by simp; omega, ?_, (((hbj.setCell (p := ⟨g, j * 4, none⟩) hgb _).setCell (p := ⟨g, j * 4 + 1, none⟩) hgb _).setCell (p := ⟨g, j * 4 + 2, none⟩) hgb _).setCell (p := ⟨g, j * 4 + 3, none⟩) hgb _⟩, by simp [intOf]; omega⟩
        ·rw [mem_take_succ l k hkl, ← Hxe.out, ← H.out.2]
         constructor
         ·intro hz
          rcases List.mem_append.1 hz with h | h
          ·exact .inl (List.mem_of_mem_take h)
          ·rcases List.mem_cons.1 h with rfl | h
           ·exact .inr rfl
           ·exact .inl (List.mem_of_mem_drop h)
         ·rintro (h | rfl)
          ·rw [← List.take_append_drop j S] at h
           rcases List.mem_append.1 h with h | h
           ·exact List.mem_append_left _ h
           ·exact List.mem_append_right _ (List.mem_cons_of_mem _ h)
          ·exact List.mem_append_right _ (List.mem_cons_self ..)
        ·have := own_set_arc Hoj.out j x (by rw [hlj.out]; omega)
         rw [set_last S j hm] at this
         have hl2 : (S.take j ++ x :: S.drop j).length = S.length + 1 := by simp; omega
         rw [hl2]; exact this
  ·obtain rfl : k = l.length := by omega
   go_wp2
   go_ret
   exact ⟨_, S, rfl, H.out.1, fun y => by rw [H.out.2, List.take_length], hown'.out, hbw⟩

end Go.Proofs.YtfihjpffjdnahaaGreatDoor

/- Walks of the reference's comparing (gazetteerref12: Same, Texts); how machines read. -/
namespace Go.Proofs.YtfihjpffjdnahaaGreatDoor
open Go.RowKit Classical

structure Mach where
 states : Int
 start : Int
 final : List Int
 arcs : List Arc
def MachAt (w : World) (B : Nat) (v : Value) (M : Mach) : Prop :=
 ∃ fa fc aa ac, v = .agg #[.int .i64 M.states, .int .i64 M.start, .slice fa M.final.length fc, .slice aa M.arcs.length ac] ∧ M.final.length ≤ maxLen ∧ M.arcs.length ≤ maxLen ∧
  RowAt w B fa (nums M.final) ∧ RowAt w B aa (flat M.arcs)
theorem MachAt.below {w w' : World} {B B' : Nat} {v : Value} {M : Mach} (h : MachAt w B v M) (hb : Below B' w w') (hB : B ≤ B') : MachAt w' B v M := by
 obtain ⟨fa, fc, aa, ac, e, h1, h2, h3, h4⟩ := h
 exact ⟨fa, fc, aa, ac, e, h1, h2, h3.below hb hB, h4.below hb hB⟩
theorem MachAt.more {w : World} {B B' : Nat} {v : Value} {M : Mach} (h : MachAt w B v M) (hB : B ≤ B') : MachAt w B' v M := by
 obtain ⟨fa, fc, aa, ac, e, h1, h2, h3, h4⟩ := h
 exact ⟨fa, fc, aa, ac, e, h1, h2, h3.more hB, h4.more hB⟩

theorem list_ext_to {α : Type} {a b : List α} (hl : a.length = b.length) (h : ∀ j, j < a.length → a[j]? = b[j]?) : a = b := by
 apply List.ext_getElem?
 intro j
 rcases Nat.lt_or_ge j a.length with hj | hj
 ·exact h j hj
 ·rw [List.getElem?_eq_none hj, List.getElem?_eq_none (by omega)]
theorem to_step {α : Type} {a b : List α} {k : Nat} (h : ∀ j, j < k → a[j]? = b[j]?) (ha : k < a.length) (hb : k < b.length) (e : a[k] = b[k]) : ∀ j, j < k + 1 → a[j]? = b[j]? := by
 intro j hj
 rcases Nat.lt_succ_iff_lt_or_eq.1 hj with hj | rfl
 ·exact h j hj
 ·rw [List.getElem?_eq_getElem ha, List.getElem?_eq_getElem hb, e]

set_option maxRecDepth 100000 in
set_option maxHeartbeats 1000000 in
theorem Texts12_any (a b : List ByteArray) (aa ba : Option Addr) (ac bc : Nat) (hal : a.length ≤ maxLen) (w : World) (ha : RowAt w w.heap.size aa (strs a)) (hb : RowAt w w.heap.size ba (strs b)) :
  Calls Tryz.prog 17 #[.slice aa a.length ac, .slice ba b.length bc] w fun e w' => e = .returned (.bool (decide (a = b))) ∧ Below w.heap.size w w' := by
 unfold maxLen at hal
 go_enter Tryz.func17, Tryz.ntmps17
 by_cases hl : a.length = b.length
 ·have d1 : ((a.length : Int) != (b.length : Int)) = false := by simp [hl]
  have Hl := Lib.hid hl
  clear hl
  go_wp2_with fail
  go_loopw [5] (fun i wr => ∃ k : Nat, k ≤ a.length ∧ i = .int .i64 k ∧ (∀ j, j < k → a[j]? = b[j]?) ∧ Below w.heap.size w wr) (fun i _ => a.length - (intOf i).toNat)
  case atStart => exact ⟨0, Nat.zero_le _, rfl, by simp, Below.refl _ _⟩
  case round =>
   obtain ⟨k, hk, rfl, hto, hbw⟩ := hrel
   have Hto := Lib.hid hto
   clear hto
   by_cases hka : k < a.length
   ·have hkb : k < b.length := by have := Hl.out; omega
    obtain ⟨g, o, rfl, hg, hc⟩ := ha.strs (by omega)
    obtain ⟨g', o', rfl, hg', hc'⟩ := hb.strs (by omega)
    have x0 := (hbw.cell (p := ⟨g, o + k, none⟩) hg).trans (hc k hka)
    have y0 := (hbw.cell (p := ⟨g', o' + k, none⟩) hg').trans (hc' k hkb)
    clear hc hc'
    by_cases he : a[k] = b[k]
    ·have d2 : (a[k].toList == b[k].toList) = true := by rw [he]; simp
     have He := Lib.hid he
     clear he
     go_wp2_with fail
     go_quiet (fail)
     go_wp2
     exact ⟨⟨k + 1, by omega, by go_num, to_step Hto.out hka hkb He.out, below_drewN hbw _⟩, by simp [intOf]; omega⟩
    ·have d2 : (a[k].toList == b[k].toList) = false := by
      rw [ByteArray.toList_eq, ByteArray.toList_eq, beq_eq_false_iff_ne]; exact fun e => he (bl_inj e)
     have He := Lib.hid he
     clear he
     go_wp2_with fail
     go_quiet (fail)
     go_wp2
     go_ret
     refine ⟨ret_no fun hab => He.out ?_, below_drewN hbw _⟩
     subst hab; rfl
   ·go_wp2
    go_ret
    exact ⟨ret_yes (list_ext_to Hl.out fun j hj => Hto.out j (by omega)), hbw⟩
 ·have d1 : ((a.length : Int) != (b.length : Int)) = true := by simp; omega
  have Hl := Lib.hid hl
  clear hl
  go_wp2
  go_ret
  exact ⟨ret_no fun hab => Hl.out (by rw [hab]), Below.refl _ _⟩

set_option maxRecDepth 100000 in
set_option maxHeartbeats 2000000 in
theorem Same12_any (M N : Mach) (v u : Value) (w : World) (hM : MachAt w w.heap.size v M) (hN : MachAt w w.heap.size u N) :
  Calls Tryz.prog 13 #[v, u] w fun e w' => e = .returned (.bool (decide (M = N))) ∧ Below w.heap.size w w' := by
 obtain ⟨fa, fc, aa, ac, rfl, hf1, ha1, hf, ha⟩ := hM
 obtain ⟨fa', fc', aa', ac', rfl, hf1', ha1', hf', ha'⟩ := hN
 unfold maxLen at hf1 ha1 hf1' ha1'
 go_enter Tryz.func13, Tryz.ntmps13
 have hbel : ∀ o o' : Obj, Below w.heap.size w ((w.alloc o).alloc o') := fun o o' => ((Below.refl _ _).alloc (Nat.le_refl _) _).alloc (by simp) _
 have Hbel := Lib.hid hbel
 clear hbel
 by_cases e1 : M.states = N.states
 ·by_cases e2 : M.start = N.start
  ·by_cases e3 : M.final.length = N.final.length
   ·by_cases e4 : M.arcs.length = N.arcs.length
    ·have d1 : (M.states != N.states) = false := by simp [e1]
     have d2 : (M.start != N.start) = false := by simp [e2]
     have d3 : ((M.final.length : Int) != N.final.length) = false := by simp [e3]
     have d4 : ((M.arcs.length : Int) != N.arcs.length) = false := by simp [e4]
     have E := Lib.hid (And.intro e1 (And.intro e2 (And.intro e3 e4)))
     clear e1 e2 e3 e4
     go_wp2_with fail
     generalize hW0 : ((w.alloc _).alloc _) = W0
     have hw0 : Below w.heap.size w W0 := by rw [← hW0]; exact Hbel.out _ _
     have hsz : W0.heap.size = w.heap.size + 2 := by rw [← hW0]; simp
     have hbr : Box W0 w.heap.size [Value.int .i64 M.states, .int .i64 M.start, .slice fa M.final.length fc, .slice aa M.arcs.length ac] := by
      rw [← hW0]; exact (Box.new _ _ _).alloc (by simp) _
     have hba : Box W0 (w.heap.size + 1) [Value.int .i64 N.states, .int .i64 N.start, .slice fa' N.final.length fc', .slice aa' N.arcs.length ac'] := by
      rw [← hW0]; have := (Box.new (w.alloc (.cells #[Value.int .i64 M.states, .int .i64 M.start, .slice fa M.final.length fc, .slice aa M.arcs.length ac] 25)) [Value.int .i64 N.states, .int .i64 N.start, .slice fa' N.final.length fc', .slice aa' N.arcs.length ac'] 25)
      simpa using this
     clear hW0
     have Hk := Lib.hid (fun wr (hbw : Below W0.heap.size W0 wr) => And.intro (hbr.below hbw (by omega)).c4 (hba.below hbw (by omega)).c4)
     clear hbr hba d1 d2 d3 d4
     go_loopw [5] (fun i wr => ∃ k : Nat, k ≤ M.final.length ∧ i = .int .i64 k ∧ (∀ j, j < k → M.final[j]? = N.final[j]?) ∧ Below W0.heap.size W0 wr) (fun i _ => M.final.length - (intOf i).toNat)
     case atStart => exact ⟨0, Nat.zero_le _, rfl, by simp, Below.refl _ _⟩
     case round =>
      obtain ⟨k, hk, rfl, hto, hbw⟩ := hrel
      have Hto := Lib.hid hto
      clear hto
      have hwr := hw0.trans (hbw.mono hw0.size)
      obtain ⟨⟨r0, r1, r2, r3⟩, s0, s1, s2, s3⟩ := Hk.out wr hbw
      by_cases hka : k < M.final.length
      ·have hkb : k < N.final.length := by have := E.out.2.2.1; omega
       obtain ⟨g, o, rfl, hg, hc⟩ := hf.nums (by omega)
       obtain ⟨g', o', rfl, hg', hc'⟩ := hf'.nums (by omega)
       have x0 := (hwr.cell (p := ⟨g, o + k, none⟩) hg).trans (hc k hka)
       have y0 := (hwr.cell (p := ⟨g', o' + k, none⟩) hg').trans (hc' k hkb)
       clear hc hc'
       by_cases he : M.final[k] = N.final[k]
       ·have d2 : (M.final[k] != N.final[k]) = false := by simp [he]
        have He := Lib.hid he
        clear he
        go_wp2_with fail
        go_quiet (fail)
        go_wp2
        exact ⟨⟨k + 1, by omega, by go_num, to_step Hto.out hka hkb He.out, below_drewN hbw _⟩, by simp [intOf]; omega⟩
       ·have d2 : (M.final[k] != N.final[k]) = true := by simp [he]
        have He := Lib.hid he
        clear he
        go_wp2_with fail
        go_quiet (fail)
        go_wp2
        go_ret
        refine ⟨ret_no fun hab => He.out ?_, below_drewN hwr _⟩
        subst hab; rfl
      ·have hfe : M.final = N.final := list_ext_to E.out.2.2.1 fun j hj => Hto.out j (by omega)
       have Hfe := Lib.hid hfe
       clear hfe
       go_wp2_with fail
       obtain ⟨wo, rfl⟩ : ∃ wo : World, wo = wr := ⟨_, rfl⟩
       clear r0 r1 r2 r3 s0 s1 s2 s3
       go_loopw [6] (fun i wr => ∃ k : Nat, k ≤ M.arcs.length ∧ i = .int .i64 k ∧ (∀ j, j < k → M.arcs[j]? = N.arcs[j]?) ∧ Below W0.heap.size W0 wr) (fun i _ => M.arcs.length - (intOf i).toNat)
       case atStart => exact ⟨0, Nat.zero_le _, rfl, by simp, hbw⟩
       case round =>
        obtain ⟨q, hq, rfl, hto, hbr⟩ := hrel
        have Hto2 := Lib.hid hto
        clear hto
        have hwq := hw0.trans (hbr.mono hw0.size)
        obtain ⟨⟨r0, r1, r2, r3⟩, s0, s1, s2, s3⟩ := Hk.out wr hbr
        by_cases hka : q < M.arcs.length
        ·have hkb : q < N.arcs.length := by have := E.out.2.2.2; omega
         obtain ⟨g, o, rfl, hg, hc⟩ := ha.arcs (by omega)
         obtain ⟨g', o', rfl, hg', hc'⟩ := ha'.arcs (by omega)
         have hx := hc q hka
         have hy := hc' q hkb
         have x0 := (hwq.cell (p := ⟨g, o + q * 4, none⟩) hg).trans hx.1
         have x1 := (hwq.cell (p := ⟨g, o + q * 4 + 1, none⟩) hg).trans hx.2.1
         have x2 := (hwq.cell (p := ⟨g, o + q * 4 + 2, none⟩) hg).trans hx.2.2.1
         have x3 := (hwq.cell (p := ⟨g, o + q * 4 + 3, none⟩) hg).trans hx.2.2.2
         have y0 := (hwq.cell (p := ⟨g', o' + q * 4, none⟩) hg').trans hy.1
         have y1 := (hwq.cell (p := ⟨g', o' + q * 4 + 1, none⟩) hg').trans hy.2.1
         have y2 := (hwq.cell (p := ⟨g', o' + q * 4 + 2, none⟩) hg').trans hy.2.2.1
         have y3 := (hwq.cell (p := ⟨g', o' + q * 4 + 3, none⟩) hg').trans hy.2.2.2
         have hne := neq_arc M.arcs[q] N.arcs[q]
         have hgd := guard_arc
         clear hc hc' hx hy
         by_cases he : M.arcs[q] = N.arcs[q]
         ·have d2 : decide (M.arcs[q] = N.arcs[q]) = true := decide_eq_true he
          have He := Lib.hid he
          clear he
          go_wp2_with fail
          go_quiet (fail)
          go_wp2
          exact ⟨⟨q + 1, by omega, by go_num, to_step Hto2.out hka hkb He.out, below_drewN hbr _⟩, by simp [intOf]; omega⟩
         ·have d2 : decide (M.arcs[q] = N.arcs[q]) = false := decide_eq_false he
          have He := Lib.hid he
          clear he
          go_wp2_with fail
          go_quiet (fail)
          go_wp2
          go_ret
          refine ⟨ret_no fun hab => He.out ?_, below_drewN hwq _⟩
          subst hab; rfl
        ·have hae : M.arcs = N.arcs := list_ext_to E.out.2.2.2 fun j hj => Hto2.out j (by omega)
         have Hae := Lib.hid hae
         clear hae
         go_wp2
         go_ret
         refine ⟨ret_yes ?_, hwq⟩
         have h1 := E.out.1; have h2 := E.out.2.1; have h3 := Hfe.out; have h4 := Hae.out
         cases M; cases N
         simp_all
    ·have d1 : (M.states != N.states) = false := by simp [e1]
     have d2 : (M.start != N.start) = false := by simp [e2]
     have d3 : ((M.final.length : Int) != N.final.length) = false := by simp [e3]
     have d4 : ((M.arcs.length : Int) != N.arcs.length) = true := by simp; omega
     have E := Lib.hid e4
     clear e1 e2 e3 e4
     go_wp2
     go_ret
     exact ⟨ret_no fun h => E.out (by rw [h]), Hbel.out _ _⟩
   ·have d1 : (M.states != N.states) = false := by simp [e1]
    have d2 : (M.start != N.start) = false := by simp [e2]
    have d3 : ((M.final.length : Int) != N.final.length) = true := by simp; omega
    have E := Lib.hid e3
    clear e1 e2 e3
    go_wp2
    go_ret
    exact ⟨ret_no fun h => E.out (by rw [h]), Hbel.out _ _⟩
  ·have d1 : (M.states != N.states) = false := by simp [e1]
   have d2 : (M.start != N.start) = true := by simp [e2]
   have E := Lib.hid e2
   clear e1 e2
   go_wp2
   go_ret
   exact ⟨ret_no fun h => E.out (by rw [h]), Hbel.out _ _⟩
 ·have d1 : (M.states != N.states) = true := by simp [e1]
  have E := Lib.hid e1
  clear e1
  go_wp2
  go_ret
  exact ⟨ret_no fun h => E.out (by rw [h]), Hbel.out _ _⟩

end Go.Proofs.YtfihjpffjdnahaaGreatDoor

/- Walk: the first of some numbers that is not 0 (cmp.Or). -/
namespace Go.Proofs.YtfihjpffjdnahaaGreatDoor
open Go.RowKit Classical

/-- The first of some numbers that is not 0. -/
def orI : List Int → Int
 | [] => 0
 | x :: r => if x = 0 then orI r else x
theorem orI_drop {l : List Int} {k : Nat} (h : ∀ j, j < k → l[j]? = some 0) (hk : k ≤ l.length) : orI l = orI (l.drop k) := by
 induction k generalizing l with
 | zero => rfl
 | succ k ih =>
  cases l with
  | nil => simp at hk
  | cons a l =>
   have h0 := h 0 (by omega)
   simp at h0
   subst h0
   rw [orI, if_pos rfl, ih (fun j hj => by have := h (j + 1) (by omega); simpa using this) (by simpa using hk)]
   rfl

set_option maxRecDepth 100000 in
set_option maxHeartbeats 1000000 in
theorem Or_any (zs : List Int) (a : Option Addr) (c : Nat) (B : Nat) (hz : zs.length ≤ maxLen) (w : World) (h : RowAt w B a (nums zs)) :
  Calls Tryz.prog 65 #[.slice a zs.length c] w fun e w' => e = .returned (.int .i64 (orI zs)) ∧ w' = w := by
 unfold maxLen at hz
 go_enter Tryz.func65, Tryz.ntmps65
 go_wp2_with fail
 go_loop [8] (fun i => ∃ k : Nat, k ≤ zs.length ∧ i = .int .i64 k ∧ (∀ j, j < k → zs[j]? = some 0)) (fun i => zs.length - (intOf i).toNat)
 case atStart => exact ⟨0, Nat.zero_le _, rfl, by simp⟩
 case round =>
  obtain ⟨k, hk, rfl, hno⟩ := hrel
  have Hno := Lib.hid hno
  clear hno
  by_cases hkl : k < zs.length
  ·obtain ⟨g, o, rfl, hg, hc⟩ := h.nums (by omega)
   have c0 := hc k hkl
   have Hget := Lib.hid (List.getElem?_eq_getElem hkl)
   have Hor := Lib.hid (show orI zs = if zs[k] = 0 then orI (zs.drop (k + 1)) else zs[k] from by rw [orI_drop Hno.out hk, List.drop_eq_getElem_cons hkl]; rfl)
   obtain ⟨z, hz⟩ : ∃ z, zs[k] = z := ⟨_, rfl⟩
   rw [hz] at c0 Hget Hor
   clear hc hz
   by_cases he : z = 0
   ·subst he
    go_wp2
    refine ⟨⟨k + 1, by omega, by go_num, fun j hj => ?_⟩, by simp [intOf]; omega⟩
    rcases Nat.lt_succ_iff_lt_or_eq.1 hj with hj | rfl
    ·exact Hno.out j hj
    ·exact Hget.out
   ·have d1 : (z != 0) = true := by simpa using he
    have He := Lib.hid he
    clear he
    go_wp2
    go_ret
    exact ⟨ret_int (by rw [Hor.out, if_neg He.out]), rfl⟩
  ·go_wp2
   go_ret
   refine ⟨ret_int ?_, rfl⟩
   rw [orI_drop Hno.out hk, List.drop_of_length_le (by omega)]; rfl

end Go.Proofs.YtfihjpffjdnahaaGreatDoor
