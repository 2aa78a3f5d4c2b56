/- EN · CT -/
import Derived.Test.YtfihjpffjdnahaaGreatDoorDD
import Derived.Test.YtfihjpffjdnahaaGreatDoorPB
/- Walk: gazetteerref14.builder.number. -/
namespace Go.Proofs.YtfihjpffjdnahaaGreatDoor
open Go.RowKit Classical
attribute [local go_sem] undef_bool undef_bool'

/-- The builder: its box, and the rows of pairs and arcs. -/
def BSt (w0 : World) (B : Nat) (pv av : Value) (ord : List (Int × Int)) (arcs : List Arc) (w : World) : Prop :=
 Blk w B #[pv, av] 63 ∧ w.ownsRow (B + 1) 65 2 pv ord.length (pairsV ord) ∧ w.ownsRow (B + 1) 40 4 av arcs.length (flat arcs) ∧ Below B w0 w
theorem info_two : (Tryz.prog.info? 65).map (fun i => (i.zero, i.size, i.bytes)) = some (some (.agg #[.int .i64 0, .int .i64 0]), 2, 16) := by kernel_rfl
theorem BSt.arcs_app {w0 : World} {B : Nat} {w w2 : World} {pv av v : Value} {ob : Obj} {ord : List (Int × Int)} {arcs arcs' : List Arc} (h : BSt w0 B pv av ord arcs w)
  (h2 : w2.ownsRow (B + 1) 40 4 v arcs'.length (flat arcs')) (hg : (w.alloc ob).grownBy w2 av.ownBlock) : BSt w0 B pv v ord arcs' (w2.setCell ⟨B, 1, none⟩ v) := by
 obtain ⟨hB, hp, ha, hb⟩ := h
 have ha1 := ha.alloc ob
 have hp1 := hp.alloc ob
 have k1 := (hB.alloc ob).grown hg (fun e => (hB.alloc ob).own_ne ha1 (by decide) e.symm)
 have k2 := own_kept_other hp1 ha1 (by decide) hg
 refine ⟨by have := k1.set_ 1 v; simpa using this, own_setCell k2 (fun e => by have := (k2.lt _ e).1; simp only at this; omega) _, own_setCell h2 (fun e => by have := (h2.lt _ e).1; simp only at this; omega) _, ?_⟩
 have hs := hb.size
 have hlt := hB.lt
 exact (((hb.alloc (by omega) ob).grown hg (by simp; omega) (fun j hj => by have := (ha.lt j hj).1; omega))).setCell (p := ⟨B, 1, none⟩) (Nat.le_refl _) _

set_option maxRecDepth 100000 in
set_option maxHeartbeats 2000000 in
theorem number14_any (ord : List (Int × Int)) (arcs : List Arc) (x : Int × Int) (hl : ord.length ≤ 16000000) (w0 : World) (B : Nat) (pv av : Value) (w : World) (h : BSt w0 B pv av ord arcs w) :
  Calls Tryz.prog 27 #[.pointer (some ⟨B, 0, none⟩), .int .i64 x.1, .int .i64 x.2] w fun e w' => e = .returned (.int .i64 ((addO ord x).idxOf x : Nat)) ∧ (∃ pv', BSt w0 B pv' av (addO ord x) arcs w') ∧ Below B w w' ∧ ∀ b cs t, b ≠ B → t ≠ 65 → Blk w b cs t → Blk w' b cs t := by
 obtain ⟨hB, hp, ha, hb⟩ := h
 obtain ⟨pa, pc, rfl, -, hrow⟩ := RowAt.of_own hp
 have c0 : w.cell? ⟨B, 0, none⟩ = some (.slice pa ord.length pc) := hB.cell 0
 have H := Lib.hid (And.intro hB (And.intro hp (And.intro ha hb)))
 have HR := Lib.hid hrow
 clear hB hp ha hb hrow
 go_enter Tryz.func27, Tryz.ntmps27
 go_wp2_with fail
 go_loopw [7] (fun s7 wx => ∃ k : Nat, k ≤ ord.length ∧ s7 = .int .i64 k ∧ x ∉ ord.take k ∧ wx = w) (fun s7 _ => ord.length - (intOf s7).toNat)
 case atStart => exact ⟨0, Nat.zero_le _, rfl, by simp, rfl⟩
 case round =>
  obtain ⟨k, hk, rfl, hn, rfl⟩ := hrel
  by_cases hkl : k < ord.length
  ·obtain ⟨b, off, rfl, -, hc⟩ := HR.out.pairs (by omega)
   obtain ⟨y0, y1⟩ := hc k hkl
   have htk : ord.take (k + 1) = ord.take k ++ [ord[k]] := by rw [List.take_add_one, List.getElem?_eq_getElem hkl]; rfl
   have hmem : ord[k] ∈ ord := List.getElem_mem hkl
   have hidx : ord[k] = x → (addO ord x).idxOf x = k := fun e => by
    have hm : x ∈ ord := e ▸ hmem
    have h1 : addO ord x = ord := by unfold addO; rw [if_pos hm]
    rw [h1]
    have hd : ord = ord.take k ++ x :: ord.drop (k + 1) := by rw [← e, ← List.drop_eq_getElem_cons hkl, List.take_append_drop]
    rw [hd, List.idxOf_append, if_neg hn, List.idxOf_cons_self, List.length_take]
    omega
   obtain ⟨y, hy⟩ : ∃ y, ord[k] = y := ⟨_, rfl⟩
   rw [hy] at y0 y1 htk hmem hidx
   have HK := Lib.hid (And.intro hn (And.intro htk (And.intro hmem hidx)))
   clear hn htk hmem hidx hy hc
   by_cases he : y = x
   ·have d1 : (y.1 == x.1) = true := by simp [he]
    have d2 : (y.2 == x.2) = true := by simp [he]
    have Hidx := Lib.hid (HK.out.2.2.2 he)
    have hadd := Lib.hid (show addO ord x = ord by unfold addO; rw [if_pos (he ▸ HK.out.2.2.1)])
    clear he
    go_wp2_with fail
    go_ret
    refine ⟨by rw [Hidx.out]; simp, ?_, Below.refl _ _, fun _ _ _ _ _ h => h⟩
    rw [hadd.out]
    exact ⟨_, H.out.1, H.out.2.1, H.out.2.2.1, H.out.2.2.2⟩
   ·have Hf := Lib.hid (show x ∉ ord.take (k + 1) from fun h => by
     rw [HK.out.2.1] at h
     rcases List.mem_append.1 h with h | h
     ·exact HK.out.1 h
     ·exact he (List.mem_singleton.1 h).symm)
    by_cases h1 : y.1 = x.1
    ·have d1 : (y.1 == x.1) = true := by simp [h1]
     have d2 : (y.2 == x.2) = false := by
      rw [beq_eq_false_iff_ne]
      exact fun h2 => he (Prod.ext h1 h2)
     clear he h1
     go_wp2_with fail
     exact ⟨⟨k + 1, by omega, by go_num, Hf.out, by first | trivial | rfl⟩, by simp [intOf]; omega⟩
    ·have d1 : (y.1 == x.1) = false := by simp [h1]
     clear he h1
     go_wp2_with fail
     exact ⟨⟨k + 1, by omega, by go_num, Hf.out, by first | trivial | rfl⟩, by simp [intOf]; omega⟩
  ·obtain rfl : k = ord.length := by omega
   have hm : x ∉ ord := by rwa [List.take_length] at hn
   have hadd : addO ord x = ord ++ [x] := by unfold addO; rw [if_neg hm]
   have hidx : (ord ++ [x]).idxOf x = ord.length := by
    rw [List.idxOf_append, if_neg hm]
    simp
   have Hadd := Lib.hid (And.intro hadd hidx)
   obtain ⟨i0, hi, hz0, hz1, hz2⟩ := info_parts info_two
   clear hn hm hadd hidx hk
   go_wp2_with (at_builtin; refine wpList_append_own_at _ rfl _ _ 61 rfl (B + 1) 65 i0 _ 2 16 Tryz.underlying61 hi hz0 hz1 hz2 rfl (by decide) _ _ _ rfl (H.out.2.1.alloc _) ⟨wr.heap.size, 0, none⟩ 1 1 [.int .i64 x.1, .int .i64 x.2] rfl rfl (by exact cells_new _ _ _) (by simp [Value.oneCell']) (by unfold maxLen; omega) (by omega) (by have := H.out.1.lt; simp; omega) ?_)
   intro v' w2 hown2 hgrow2 _ hat2
   have k1 := (H.out.1.alloc (.cells #[.int .i64 x.1, .int .i64 x.2] 65)).grown hgrow2 (fun e => (H.out.1.alloc (.cells #[.int .i64 x.1, .int .i64 x.2] 65)).own_ne (H.out.2.1.alloc _) (by decide) e.symm)
   have k2 := own_kept_other (H.out.2.2.1.alloc (.cells #[.int .i64 x.1, .int .i64 x.2] 65)) (H.out.2.1.alloc _) (by decide) hgrow2
   have kb : Below B wr w2 := ((Below.refl _ _).alloc (by have := H.out.1.lt; omega) _).grown hgrow2 (by have := H.out.1.lt; simp; omega) (fun j hj => by have := (H.out.2.1.lt j hj).1; omega)
   have c0' : w2.cell? ⟨B, 0, none⟩ = some (.slice pa ord.length pc) := k1.cell 0
   have f0 := k1.frozen 0
   obtain ⟨va, vc, rfl, -, -⟩ := RowAt.of_own hown2
   have s1 : (w2.setCell ⟨B, 0, none⟩ (.slice va (ord.length + 1) vc)).ownsRow (B + 1) 65 2 (.slice va (ord.length + 1) vc) (ord.length + 1) (pairsV ord ++ [.int .i64 x.1, .int .i64 x.2]) := own_setCell hown2 (fun e => by have := (hown2.lt _ e).1; simp only at this; omega) _
   have s2 : (w2.setCell ⟨B, 0, none⟩ (.slice va (ord.length + 1) vc)).ownsRow (B + 1) 40 4 av arcs.length (flat arcs) := own_setCell k2 (fun e => by have := (k2.lt _ e).1; simp only at this; omega) _
   have s3 : Blk (w2.setCell ⟨B, 0, none⟩ (.slice va (ord.length + 1) vc)) B #[.slice va (ord.length + 1) vc, av] 63 := by have := k1.set_ 0 (.slice va (ord.length + 1) vc); simpa using this
   have s4 : Below B wr (w2.setCell ⟨B, 0, none⟩ (.slice va (ord.length + 1) vc)) := kb.setCell (p := ⟨B, 0, none⟩) (Nat.le_refl _) _
   have s5 : ∀ b cs t, b ≠ B → t ≠ 65 → Blk wr b cs t → Blk (w2.setCell ⟨B, 0, none⟩ (.slice va (ord.length + 1) vc)) b cs t := fun b cs t hb ht hk =>
    ((hk.alloc (.cells #[.int .i64 x.1, .int .i64 x.2] 65)).grown hgrow2 (fun e => (hk.alloc (.cells #[.int .i64 x.1, .int .i64 x.2] 65)).own_ne (H.out.2.1.alloc _) (fun e => ht e.symm) e.symm)).far (p := ⟨B, 0, none⟩) hb _
   have HS := Lib.hid (And.intro s1 (And.intro s2 (And.intro s3 (And.intro s4 s5))))
   clear s1 s2 s3 s4 s5 k1 k2 kb hown2 hgrow2 hat2
   have hwp : IntKind.i64.wrap (ord.length : Int) = ord.length := IntWalk.i64_in _ (by omega)
   go_wp2_with fail
   go_ret
   refine ⟨?_, ?_, HS.out.2.2.2.1, HS.out.2.2.2.2⟩
   ·rw [Hadd.out.1, Hadd.out.2]; simp
   ·rw [Hadd.out.1]
    refine ⟨_, HS.out.2.2.1, ?_, HS.out.2.1, H.out.2.2.2.trans HS.out.2.2.2.1⟩
    rw [List.length_append, pairsV_snoc']
    exact HS.out.1
end Go.Proofs.YtfihjpffjdnahaaGreatDoor

/- Plain words: a pair's steps, arc by arc, as the reference follows them. No program in sight. -/
namespace Go.Proofs.YtfihjpffjdnahaaGreatDoor
open Go Classical

noncomputable def stp2 (x : Int × Int) (a b : Arc) : List PStep := if b.frm = x.2 ∧ b.inp = a.out then [⟨a.inp, b.out, (a.to, b.to)⟩] else []
noncomputable def stp1 (n : List Arc) (x : Int × Int) (a : Arc) : List PStep := if a.frm = x.1 then (if a.out = 0 then [⟨a.inp, 0, (a.to, x.2)⟩] else n.flatMap (stp2 x a)) else []
noncomputable def stp3 (x : Int × Int) (b : Arc) : List PStep := if b.frm = x.2 ∧ b.inp = 0 then [⟨0, b.out, (x.1, b.to)⟩] else []

theorem filter_flat1 {α β : Type} (p : α → Prop) [DecidablePred p] (f : α → List β) : ∀ l : List α, (l.filter (fun a => decide (p a))).flatMap f = l.flatMap (fun a => if p a then f a else [])
 | [] => rfl
 | a :: l => by
  by_cases h : p a
  ·rw [List.filter_cons_of_pos (by simpa using h)]
   simp only [List.flatMap_cons, if_pos h, filter_flat1 p f l]
  ·rw [List.filter_cons_of_neg (by simpa using h)]
   simp only [List.flatMap_cons, if_neg h, List.nil_append, filter_flat1 p f l]
theorem filter_flat2 {α β : Type} (p : α → Prop) [DecidablePred p] (f : α → β) : ∀ l : List α, (l.filter (fun a => decide (p a))).map f = l.flatMap (fun a => if p a then [f a] else [])
 | [] => rfl
 | a :: l => by
  by_cases h : p a
  ·rw [List.filter_cons_of_pos (by simpa using h)]
   simp only [List.flatMap_cons, if_pos h, List.map_cons, filter_flat2 p f l, List.cons_append, List.nil_append]
  ·rw [List.filter_cons_of_neg (by simpa using h)]
   simp only [List.flatMap_cons, if_neg h, List.nil_append, filter_flat2 p f l]
theorem stepsL_flat (m n : List Arc) (x : Int × Int) : stepsL m n x = m.flatMap (stp1 n x) ++ n.flatMap (stp3 x) := by
 unfold stepsL
 congr 1
 ·rw [filter_flat1 (fun a : Arc => a.frm = x.1)]
  congr 1
  funext a
  unfold stp1
  split
  ·split
   ·rfl
   ·rw [filter_flat2 (fun b : Arc => b.frm = x.2 ∧ b.inp = a.out)]; rfl
  ·rfl
 ·rw [filter_flat2 (fun b : Arc => b.frm = x.2 ∧ b.inp = 0)]; rfl

theorem flat_take_succ {α β : Type} {l : List α} {k : Nat} (hk : k < l.length) (f : α → List β) : (l.take (k + 1)).flatMap f = (l.take k).flatMap f ++ f l[k] := by
 rw [List.take_add_one, List.getElem?_eq_getElem hk, List.flatMap_append]
 simp
theorem flat_take_prefix {α β : Type} (l : List α) (k : Nat) (f : α → List β) : (l.take k).flatMap f <+: l.flatMap f := by
 conv => rhs; rw [← List.take_append_drop k l]
 rw [List.flatMap_append]
 exact List.prefix_append _ _
/-- What was done when some arcs of the first machine were followed; and some of the second one for one of them. -/
noncomputable def pre1 (m n : List Arc) (x : Int × Int) (j : Nat) : List PStep := (m.take j).flatMap (stp1 n x)
noncomputable def pre2 (m n : List Arc) (x : Int × Int) (j : Nat) (a : Arc) (k : Nat) : List PStep := pre1 m n x j ++ (n.take k).flatMap (stp2 x a)
noncomputable def pre3 (m n : List Arc) (x : Int × Int) (k : Nat) : List PStep := m.flatMap (stp1 n x) ++ (n.take k).flatMap (stp3 x)
section
variable {m n : List Arc} {x : Int × Int} {j k : Nat}
theorem pre1_zero : pre1 m n x 0 = [] := by simp [pre1]
theorem pre1_all : pre1 m n x m.length = pre3 m n x 0 := by simp [pre1, pre3]
theorem pre1_skip (hj : j < m.length) (h : ¬ m[j].frm = x.1) : pre1 m n x (j + 1) = pre1 m n x j := by
 unfold pre1; rw [flat_take_succ hj, stp1, if_neg h, List.append_nil]
theorem pre1_silent (hj : j < m.length) (h : m[j].frm = x.1) (h0 : m[j].out = 0) : pre1 m n x (j + 1) = pre1 m n x j ++ [⟨m[j].inp, 0, (m[j].to, x.2)⟩] := by
 unfold pre1; rw [flat_take_succ hj, stp1, if_pos h, if_pos h0]
theorem pre1_loud (hj : j < m.length) (h : m[j].frm = x.1) (h0 : ¬ m[j].out = 0) : pre1 m n x (j + 1) = pre2 m n x j m[j] n.length := by
 unfold pre2
 unfold pre1
 rw [flat_take_succ hj, stp1, if_pos h, if_neg h0, List.take_length]
theorem pre2_zero (a : Arc) : pre2 m n x j a 0 = pre1 m n x j := by simp [pre2]
theorem pre2_yes {a : Arc} (hk : k < n.length) (h : n[k].frm = x.2 ∧ n[k].inp = a.out) : pre2 m n x j a (k + 1) = pre2 m n x j a k ++ [⟨a.inp, n[k].out, (a.to, n[k].to)⟩] := by
 unfold pre2; rw [flat_take_succ hk, stp2, if_pos h, List.append_assoc]
theorem pre2_no {a : Arc} (hk : k < n.length) (h : ¬ (n[k].frm = x.2 ∧ n[k].inp = a.out)) : pre2 m n x j a (k + 1) = pre2 m n x j a k := by
 unfold pre2; rw [flat_take_succ hk, stp2, if_neg h, List.append_nil]
theorem pre3_yes (hk : k < n.length) (h : n[k].frm = x.2 ∧ n[k].inp = 0) : pre3 m n x (k + 1) = pre3 m n x k ++ [⟨0, n[k].out, (x.1, n[k].to)⟩] := by
 unfold pre3; rw [flat_take_succ hk, stp3, if_pos h, List.append_assoc]
theorem pre3_no (hk : k < n.length) (h : ¬ (n[k].frm = x.2 ∧ n[k].inp = 0)) : pre3 m n x (k + 1) = pre3 m n x k := by
 unfold pre3; rw [flat_take_succ hk, stp3, if_neg h, List.append_nil]
theorem pre3_all : pre3 m n x n.length = stepsL m n x := by unfold pre3; rw [List.take_length, stepsL_flat]
theorem pre1_le (j : Nat) : pre1 m n x j <+: stepsL m n x := by
 rw [stepsL_flat]; exact (flat_take_prefix m j _).trans (List.prefix_append _ _)
theorem pre2_le (hj : j < m.length) (h : m[j].frm = x.1) (h0 : ¬ m[j].out = 0) (k : Nat) : pre2 m n x j m[j] k <+: stepsL m n x := by
 refine List.IsPrefix.trans ?_ (pre1_le (j + 1))
 rw [pre1_loud hj h h0]
 unfold pre2
 exact (List.prefix_append_right_inj _).2 (by rw [List.take_length]; exact flat_take_prefix n k _)
theorem pre3_le (k : Nat) : pre3 m n x k <+: stepsL m n x := by
 rw [stepsL_flat]; unfold pre3
 exact (List.prefix_append_right_inj _).2 (flat_take_prefix n k _)
end
section
variable {M N : Mach} {st : PSt} {i : Nat}
/-- The pairs and arcs in the midst of a pair's steps. -/
noncomputable def midO (i : Nat) (st : PSt) (pre : List PStep) : PSt := pre.foldl (stepO i) st
theorem midO_nil : midO i st [] = st := rfl
theorem midO_snoc (pre : List PStep) (s : PStep) : midO i st (pre ++ [s]) = stepO i (midO i st pre) s := by simp [midO, List.foldl_append]
theorem PInv.midway (h : PInv M N st i) (hM : ValidM M) (hN : ValidM N) (hi : i < st.ord.length) {pre : List PStep} (hp : pre <+: stepsL M.arcs N.arcs st.ord[i]) : MInv M N i st (midO i st pre) :=
 h.mid hM hN hi (fun _ hs => hp.subset hs) hp.length_le
theorem PInv.row (h : PInv M N st i) (hM : ValidM M) (hN : ValidM N) (hi : i < st.ord.length) (h4 : i < 4000) : PInv M N (midO i st (pre3 M.arcs N.arcs st.ord[i] N.arcs.length)) (i + 1) := by
 rw [pre3_all]; exact h.next hM hN hi h4
theorem MInv.ord_le {st0 : PSt} (h : MInv M N i st0 st) (hM : ValidM M) (hN : ValidM N) : st.ord.length ≤ 16000000 := Go.Proofs.YtfihjpffjdnahaaGreatDoor.ord_le hM hN h.nodup h.pair
end
end Go.Proofs.YtfihjpffjdnahaaGreatDoor
