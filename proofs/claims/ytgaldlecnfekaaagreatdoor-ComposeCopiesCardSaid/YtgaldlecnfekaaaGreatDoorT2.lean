/- Walk: machine.spread, whole. -/
import Derived.Test.YtgaldlecnfekaaaGreatDoorT1
import Derived.Deep.RegionHeld3
import Derived.Deep.AppendLies
import Derived.Deep.CutBlock
import Derived.Deep.DeepCutAuto
namespace Go.Proofs.YtgaldlecnfekaaaGreatDoor
open Go.RowKit Classical

def pairsV (l : List (Int × Int)) : List Value := l.flatMap (fun p => [Value.int .i64 p.1, .int .i64 p.2])
theorem pairsV_length (l : List (Int × Int)) : (pairsV l).length = l.length * 2 := by
  induction l with
  | nil => rfl
  | cons p l ih => simp only [pairsV, List.flatMap_cons, List.length_append, List.length_cons, List.length_nil] at ih ⊢; omega
theorem pairsV_get : ∀ (l : List (Int × Int)) (i : Nat) (p : Int × Int), l[i]? = some p → (pairsV l)[i * 2]? = some (.int .i64 p.1) ∧ (pairsV l)[i * 2 + 1]? = some (.int .i64 p.2)
  | [], i, p, h => by simp at h
  | q :: l, 0, p, h => by
    obtain rfl : q = p := by simpa using h
    exact ⟨rfl, rfl⟩
  | q :: l, i + 1, p, h => by
    have ih := pairsV_get l i p (by simpa using h)
    rw [show (i + 1) * 2 = i * 2 + 1 + 1 by omega]
    simp only [pairsV, List.flatMap_cons, List.cons_append, List.nil_append, List.getElem?_cons_succ] at ih ⊢
    exact ih
theorem RowAt.pairs {w : World} {B : Nat} {a : Option Addr} {l : List (Int × Int)} (h : RowAt w B a (pairsV l)) (hn : 0 < l.length) :
    ∃ b off, a = some ⟨b, off, none⟩ ∧ b < B ∧ ∀ i (hi : i < l.length), w.cell? ⟨b, off + i * 2, none⟩ = some (.int .i64 l[i].1) ∧ w.cell? ⟨b, off + i * 2 + 1, none⟩ = some (.int .i64 l[i].2) := by
  obtain ⟨b, off, e, hb, hc⟩ := h (by rw [pairsV_length]; omega)
  refine ⟨b, off, e, hb, fun i hi => ?_⟩
  obtain ⟨h0, h1⟩ := pairsV_get l i l[i] (List.getElem?_eq_getElem hi)
  exact ⟨hc _ _ h0, hc _ _ h1⟩

set_option maxRecDepth 100000 in
set_option maxHeartbeats 4000000 in
theorem spread_any (l : List (Int × Int)) (n : Nat) (hn : n ≤ 4000) (hl : ∀ p ∈ l, (0 ≤ p.1 ∧ p.1 < n) ∧ (0 ≤ p.2 ∧ p.2 < n)) (hlen : l.length ≤ 20000) (xs : List Bool) (hxl : xs.length = n) (bs : Nat) (pa : Option Addr) (pc : Nat) (w : World)
    (hbs : Blk w bs (bools xs).toArray 4) (hp : RowAt w w.heap.size pa (pairsV l)) (hpb : 0 < l.length → ∀ p, pa = some p → p.block ≠ bs) :
    Calls Tryz.prog 57 #[.slice (some ⟨bs, 0, none⟩) n n, .slice pa l.length pc] w fun e w' =>
      e = .returned (.tuple #[]) ∧ ∃ ys, Spread l xs ys ∧ Blk w' bs (bools ys).toArray 4 ∧ Chg (fun k => k = bs) w w' := by
  have hmm := @run_makeMap Tryz.prog
  have Hbs := Lib.hid (And.intro hbs (And.intro hp hpb))
  clear hbs hp hpb
  go_enter Tryz.func57, Tryz.ntmps57
  obtain ⟨i0, hi, hz0, hz1, hz2⟩ := info_parts info_int
  go_wp2_with fail
  generalize hW0 : (((w.alloc _).alloc _).alloc _) = W0
  obtain ⟨b0, hb0⟩ : ∃ b, w.heap.size = b := ⟨_, rfl⟩
  have k0 : Blk W0 b0 #[.slice (some ⟨bs, 0, none⟩) n n] 95 := by
    rw [← hW0, ← hb0]; exact ((Blk.new _ _ _).alloc _).alloc _
  have k1 : MapIs W0 (b0 + 1) OkInt [] := by
    rw [← hW0, ← hb0]
    have := (MapIs.made (w.alloc (.cells #[.slice (some ⟨bs, 0, none⟩) n n] 95)) OkInt).alloc (.cells #[.map (some (w.heap.size + 1))] 154)
    simpa using this
  have k2 : Blk W0 (b0 + 2) #[.map (some (b0 + 1))] 154 := by
    rw [← hW0, ← hb0]
    have := Blk.new ((w.alloc (.cells #[.slice (some ⟨bs, 0, none⟩) n n] 95)).alloc (.map #[] 0)) #[.map (some (w.heap.size + 1))] 154
    simpa using this
  have hbw : Below w.heap.size w W0 := by
    rw [← hW0]; exact (((Below.refl _ _).alloc (Nat.le_refl _) _).alloc (by simp) _).alloc (by simp; omega) _
  have hsz : W0.heap.size = b0 + 3 := by rw [← hW0]; simp [hb0]
  rw [hb0] at hbw
  rw [hb0]
  have Hb0 := Lib.hid hb0
  clear hW0 hmm hb0
  have HK := Lib.hid (And.intro k0 (And.intro k1 (And.intro k2 (And.intro hbw hsz))))
  clear k0 k1 k2 hbw hsz
  go_loopw [12] (fun i wr => ∃ (k : Nat) (es : List (Value × Value)), k ≤ l.length ∧ i = .int .i64 k ∧ NextAt wr b0 (b0 + 1) (l.take k) es ∧ Blk wr b0 #[.slice (some ⟨bs, 0, none⟩) n n] 95 ∧ Blk wr (b0 + 2) #[.map (some (b0 + 1))] 154 ∧ Below b0 w wr) (fun i _ => l.length - (intOf i).toNat)
  case atStart => exact ⟨0, [], Nat.zero_le _, rfl, ⟨HK.out.2.1, fun p hp => by simp at hp, fun k hk => absurd rfl hk, fun p hp => by simp at hp⟩, HK.out.1, HK.out.2.2.1, HK.out.2.2.2.1⟩
  case round =>
    obtain ⟨k, es, hk, rfl, hnx, hbx, hbn, hbr⟩ := hrel
    have hb0' := Hb0.out
    have hszr := hbr.size
    have HB := Lib.hid (And.intro hnx (And.intro hbx hbn))
    by_cases hka : k < l.length
    · obtain ⟨b, off, rfl, hbl, hcl⟩ := Hbs.out.2.1.pairs (by omega)
      obtain ⟨c0, c1⟩ := hcl k hka
      have x0 := (hbr.cell (p := ⟨b, off + k * 2, none⟩) (by simp; omega)).trans c0
      have x1 := (hbr.cell (p := ⟨b, off + k * 2 + 1, none⟩) (by simp; omega)).trans c1
      clear hcl c0 c1
      obtain ⟨p, hp⟩ : ∃ p, p = l[k] := ⟨_, rfl⟩
      rw [← hp] at x0 x1
      have Hp := Lib.hid hp
      clear hp
      go_upto_region 5 with (fail)
      obtain ⟨W8, hW8⟩ : ∃ W8 : World, W8 = wr.alloc (.cells #[.int .i64 p.1, .int .i64 p.2] 79) := ⟨_, rfl⟩
      rw [← hW8]
      have hb8 : Below wr.heap.size wr W8 := by rw [hW8]; exact (Below.refl _ _).alloc (Nat.le_refl _) _
      have hp8 : Blk W8 wr.heap.size #[.int .i64 p.1, .int .i64 p.2] 79 := by rw [hW8]; exact Blk.new _ _ _
      have hnx8 := HB.out.1.below hb8
      have hbn8 := HB.out.2.2.below hb8 HB.out.2.2.lt
      have hbx8 := HB.out.2.1.below hb8 HB.out.2.1.lt
      have n0 : W8.cell? ⟨b0 + 1 + 1, 0, none⟩ = some (.map (some (b0 + 1))) := hbn8.cell 0
      have p0 : W8.cell? ⟨wr.heap.size, 0, none⟩ = some (.int .i64 p.1) := hp8.cell 0
      have p1 : W8.cell? ⟨wr.heap.size, 1, none⟩ = some (.int .i64 p.2) := hp8.cell 1
      obtain ⟨v0, hv0, hown0, hlk0⟩ := hnx8.look p.1
      obtain ⟨va, vc, rfl, -, -⟩ := RowAt.of_own hown0
      have hlkd : (Instr.lookup 154 (.map (some (b0 + 1))) (.int .i64 p.1) false).run Tryz.prog W8.drew = .ok (.slice va (nexts (l.take k) p.1).length vc) W8.drew := hnx8.look_at (w' := W8.drew) rfl hv0
      have hll : (nexts (l.take k) p.1).length ≤ 20000 := by
        unfold nexts; rw [List.length_map]
        refine Nat.le_trans (List.length_filter_le _ _) ?_
        rw [List.length_take]; omega
      have hsz8 := hb8.size
      have hb9 : Below W8.heap.size W8 (W8.alloc (.cells #[.int .i64 p.2] 3)).drew := ((Below.refl _ _).alloc (Nat.le_refl _) _).drew
      have hnx9 := hnx8.below hb9
      have a0 := (hb9.cell (p := ⟨b0 + 1 + 1, 0, none⟩) hbn8.lt).trans n0
      have a1 := (hb9.cell (p := ⟨wr.heap.size, 0, none⟩) hp8.lt).trans p0
      have a2 := (hb9.cell (p := ⟨wr.heap.size, 1, none⟩) hp8.lt).trans p1
      have a3 := hnx9.look_at rfl hv0
      have hown9 := own_below hown0 hb9
      have hbn9 := hbn8.below hb9 hbn8.lt
      have hp9 := hp8.below hb9 hp8.lt
      have hbx9 := hbx8.below hb9 hbx8.lt
      have H9 := Lib.hid (And.intro hnx9 (And.intro hbn9 (And.intro hbx9 (And.intro hp9 (And.intro hv0 (And.intro hown9 (hb8.trans (hb9.mono hb8.size))))))))
      clear hW8 hp8 hnx8 hbn8 hbx8 hb8 hv0 hown0 hb9 hnx9 hown9 hbn9 hp9 hbx9
      go_region_held3 (fun w' => w'.cell? ⟨b0 + 1 + 1, 0, none⟩ = some (.map (some (b0 + 1))) ∧ w'.cell? ⟨wr.heap.size, 0, none⟩ = some (.int .i64 p.1) ∧ w'.cell? ⟨wr.heap.size, 1, none⟩ = some (.int .i64 p.2))
        (first | exact ⟨n0, p0, p1⟩ | exact ⟨a0, a1, a2⟩ | exact ⟨q0, q1, q2⟩ | exact ⟨r0, r1, r2⟩ | go_keep)
        (first | (refine step_append_lies _ (by rfl) _ _ _ (by rfl) b0 3 i0 (.int .i64 0) 1 8 Tryz.underlying22 hi hz0 hz1 hz2 rfl (by decide) (.slice va (nexts (l.take k) p.1).length vc) (nexts (l.take k) p.1).length (nums (nexts (l.take k) p.1)) (by rfl) H9.out.2.2.2.2.2.1 ⟨W8.heap.size, 0, none⟩ 1 1 [.int .i64 p.2] (by rfl) rfl (by exact cell_one_new _ _ _) (by simp [Value.oneCell']) (by decide) (by unfold maxLen; omega) (by omega) (by simp; omega) _ rfl ?_; intro g cap w1 hown1 hgrow hat hlt; obtain ⟨w2, es2, hput, hnx2, hg2, hs2⟩ := H9.out.1.step p H9.out.2.2.2.2.1 hown1 hgrow hat; have g1 := H9.out.2.1.grown hgrow (fun e => H9.out.2.1.own_ne H9.out.2.2.2.2.2.1 (by decide) e.symm); have g2 := H9.out.2.2.2.1.grown hgrow (fun e => H9.out.2.2.2.1.own_ne H9.out.2.2.2.2.2.1 (by decide) e.symm); have q0 := g1.cell 0; have q1 := g2.cell 0; have q2 := g2.cell 1; have j1 := g1.grown hg2 (fun e => by injection e with e; omega); have hm1 := H9.out.1.isMap.grown hgrow (fun e => own_ne_mapB H9.out.2.2.2.2.2.1 H9.out.1.isMap e.symm); have j2 := g2.grown hg2 (fun e => g2.ne_mapB hm1 (by injection e)); have r0 := j1.cell 0; have r1 := j2.cell 0; have r2 := j2.cell 1))
      all_goals (
        have hx1 := H9.out.2.2.1.grown hgrow (fun e => H9.out.2.2.1.own_ne H9.out.2.2.2.2.2.1 (by decide) e.symm)
        have hx2 := hx1.grown hg2 (fun e => by injection e with e; omega)
        have htk : l.take (k + 1) = l.take k ++ [p] := by rw [List.take_add_one, List.getElem?_eq_getElem hka, ← Hp.out]; rfl
        have hz9 := H9.out.2.2.2.2.2.2.size
        have hz1' := hgrow.size
        have hb9' : Below b0 w _ := hbr.trans (H9.out.2.2.2.2.2.2.mono (by omega))
        have hbF : Below b0 w w2 := (hb9'.grown hgrow (Nat.le_trans (by omega) hz9) (fun j hj => (H9.out.2.2.2.2.2.1.lt j hj).1)).grown hg2 (Nat.le_trans (Nat.le_trans (by omega) hz9) hz1') (fun j hj => by cases hj; omega)
        have HF := Lib.hid (And.intro hx2 (And.intro htk (And.intro hbF (And.intro hnx2 j1))))
        clear hx1 hx2 htk hbF hnx2 j1 j2 g1 g2 hput hg2 hgrow hown1 hat
        go_wp2_with fail
        exact ⟨⟨k + 1, es2, by omega, by go_num, by rw [HF.out.2.1]; exact HF.out.2.2.2.1, HF.out.1, HF.out.2.2.2.2, HF.out.2.2.1⟩, by simp [intOf]; omega⟩)
    · obtain rfl : k = l.length := by omega
      have hnxF := HB.out.1
      rw [List.take_length] at hnxF
      have HN := Lib.hid hnxF
      clear hnxF hnx hbx hbn
      go_upto_region 9 with (fail)
      generalize hW5 : (wr.alloc _) = W5
      obtain ⟨bv, hbv⟩ : ∃ b, wr.heap.size = b := ⟨_, rfl⟩
      have hb5 : Below wr.heap.size wr W5 := by rw [← hW5]; exact (Below.refl _ _).alloc (Nat.le_refl _) _
      have kv : ∃ T, Blk W5 bv #[.func (.func 96) #[] #[.pointer (some ⟨b0 + 2, 0, none⟩), .pointer (some ⟨b0, 0, none⟩), .pointer (some ⟨bv, 0, none⟩)]] T := by
        rw [← hW5, ← hbv]; exact ⟨_, Blk.new _ _ _⟩
      rw [hbv]
      rw [hbv] at hb5
      have hx5 := HB.out.2.1.below hb5 (by rw [← hbv]; exact HB.out.2.1.lt)
      have hn5 := HB.out.2.2.below hb5 (by rw [← hbv]; exact HB.out.2.2.lt)
      have hnx5 := HN.out.below (by rw [hbv]; exact hb5)
      have hbs5 : Blk W5 bs (bools xs).toArray 4 := (Hbs.out.1.below hbr (by have := Hbs.out.1.lt; omega)).below hb5 (by have := Hbs.out.1.lt; omega)
      have hb05 : Below b0 w W5 := hbr.trans (hb5.mono (by omega))
      have hbsl := Hbs.out.1.lt
      have hbvl : b0 + 2 < bv := by have := HB.out.2.2.lt; omega
      have H5 := Lib.hid (And.intro hx5 (And.intro hn5 (And.intro hnx5 (And.intro hbs5 (And.intro kv hb05)))))
      clear hW5 hx5 hn5 hnx5 hbs5 kv hb5 hbv hb05
      have x0 := H5.out.1.cell 0
      simp only [List.getElem?_toArray, List.getElem?_cons_zero] at x0
      go_wp2_with fail
      clear x0
      go_loopw [31] (fun i wx => ∃ (k : Nat) (ys : List Bool), k ≤ n ∧ i = .int .i64 k ∧ SprOut l xs k ys ∧ Blk wx bs (bools ys).toArray 4 ∧ Chg (fun k => k = bs) W5 wx) (fun i _ => n - (intOf i).toNat)
      case atStart => exact ⟨0, xs, Nat.zero_le _, rfl, SprOut.start l xs, H5.out.2.2.2.1, Chg.refl _ _⟩
      case round =>
        obtain ⟨k, ys, hk, rfl, hso, hbs', hc⟩ := hrel
        have HS := Lib.hid (And.intro hso (And.intro hbs' hc))
        have hyl : ys.length = n := by rw [hso.len]; exact hxl
        by_cases hkn : k < n
        · have x0 := (H5.out.1.chg hc (by omega)).cell 0
          have tc := hbs'.cell k
          have etc : (bools ys).toArray[k]? = some (.bool ys[k]) := by simp [bools, hyl, hkn]
          rw [etc] at tc
          simp only [List.getElem?_toArray, List.getElem?_cons_zero] at x0
          clear etc hso hbs'
          cases hyk : ys[k] with
          | false =>
            rw [hyk] at tc
            have hno := Lib.hid (show ¬ Mk ys k from by unfold Mk; rw [List.getElem?_eq_getElem (by omega), hyk]; simp)
            clear hyk
            go_wp2_with fail
            exact ⟨⟨k + 1, ys, by omega, by go_num, HS.out.1.skip hno.out, HS.out.2.1, HS.out.2.2⟩, by simp [intOf]; omega⟩
          | true =>
            rw [hyk] at tc
            have hmk := Lib.hid (show Mk ys k from by unfold Mk; rw [List.getElem?_eq_getElem (by omega), hyk])
            obtain ⟨TV, hv⟩ := H5.out.2.2.2.2.1
            have v0 := (hv.chg hc (by omega)).cell 0
            simp only [List.getElem?_toArray, List.getElem?_cons_zero] at v0
            have HQ := Lib.hid (spread1_any l n hl hlen (b0 + 2) b0 bv bs (b0 + 1) b0 ⟨by omega, by omega, by omega⟩ es _ k ys wr rfl hyl hkn HS.out.2.1 (H5.out.1.chg hc (by omega)) (H5.out.2.1.chg hc (by omega)) ⟨TV, hv.chg hc (by omega)⟩ (H5.out.2.2.1.chg H5.out.2.2.2.1 hc))
            clear hyk hv
            go_wp2_with (go_at_call 96; refine HQ.out.mono ?_; rintro e w4 ⟨rfl, zs, hz1, hz2, hz3⟩)
            exact ⟨⟨k + 1, zs, by omega, by go_num, HS.out.1.visit hmk.out hz1, hz2, HS.out.2.2.trans hz3⟩, by simp [intOf]; omega⟩
        · obtain rfl : k = n := by omega
          clear hso hbs'
          go_wp2
          go_end0
          have hfin := HS.out.1
          rw [← hxl] at hfin
          refine ⟨rfl, ys, hfin.all (fun p hp => ⟨(hl p hp).1.1, (hl p hp).2.1⟩), HS.out.2.1, ?_⟩
          exact (Chg.of_below _ (H5.out.2.2.2.2.2.mono (by omega))).trans hc
end Go.Proofs.YtgaldlecnfekaaaGreatDoor
