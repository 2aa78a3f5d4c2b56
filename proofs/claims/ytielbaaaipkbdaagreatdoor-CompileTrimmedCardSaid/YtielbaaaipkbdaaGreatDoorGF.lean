/- F1 · LW -/
import Derived.Test.YtielbaaaipkbdaaGreatDoorW13b
import Derived.Test.YtielbaaaipkbdaaGreatDoorC6
/- Walk: what the law asks of its rules (gazetteerref13.Few). -/
namespace Go.Proofs.YtielbaaaipkbdaaGreatDoor
open Go.RowKit Classical

def Few13 (R : Ruls) (A B : Alph) (m : Int) : Prop :=
  (∀ (i : Nat) r, (i : Int) < m → R.list[i]? = some r → r.src.size ≤ 40 ∧ r.dst.size ≤ 40 ∧ r.nxt.size ≤ 40) ∧ (R.list.length : Int) ≤ m ∧ R.src.size ≤ 100 ∧ R.dst.size ≤ 100 ∧ Few10 A ∧ Few10 B

set_option maxRecDepth 100000 in
set_option maxHeartbeats 2000000 in
theorem few13_any (R : Ruls) (A B : Alph) (m : Int) (v va vb : Value) (w : World) (h : RulsAt w w.heap.size v R) (ha : AlphAt w w.heap.size va A) (hb : AlphAt w w.heap.size vb B) :
    Calls Tryz.prog 11 #[v, va, vb, .int .i64 m] w fun e w' => e = .returned (.bool (decide (Few13 R A B m))) ∧ Below w.heap.size w w' := by
  have hA := ha
  have hB := hb
  obtain ⟨la, lc, rfl, hs1, hs2, hln, hlr, hl⟩ := h
  obtain ⟨fa, fc, ga, gc, rfl, hn, hl1, hs3, hls, hfl, hfs⟩ := ha
  obtain ⟨fa2, fc2, ga2, gc2, rfl, hn2, hl2, hs4, hls2, hfl2, hfs2⟩ := hb
  unfold maxLen at hln hs1 hs2
  go_enter Tryz.func11, Tryz.ntmps11
  go_wp2_with fail
  generalize hW0 : (((w.alloc _).alloc _).alloc _) = W0
  have hw0 : Below w.heap.size w W0 := by rw [← hW0]; exact (((Below.refl _ _).alloc (Nat.le_refl _) _).alloc (by simp) _).alloc (by simp; omega) _
  have hsz : W0.heap.size = w.heap.size + 3 := by rw [← hW0]; simp
  have hbr : Box W0 w.heap.size [Value.string R.src, .string R.dst, .slice la R.list.length lc] := by
    rw [← hW0]; exact ((Box.new _ _ _).alloc (by simp) _).alloc (by simp; omega) _
  have hba : Box W0 (w.heap.size + 1) [Value.string A.name, .slice fa A.letters.length fc, .slice ga A.small.length gc] := by
    rw [← hW0]; have := (Box.new (w.alloc (.cells #[Value.string R.src, .string R.dst, .slice la R.list.length lc] 24)) [Value.string A.name, .slice fa A.letters.length fc, .slice ga A.small.length gc] 28)
    simp at this; exact this.alloc (by simp) _
  have hbb : Box W0 (w.heap.size + 2) [Value.string B.name, .slice fa2 B.letters.length fc2, .slice ga2 B.small.length gc2] := by
    rw [← hW0]; have := (Box.new ((w.alloc (.cells #[Value.string R.src, .string R.dst, .slice la R.list.length lc] 24)).alloc (.cells #[Value.string A.name, .slice fa A.letters.length fc, .slice ga A.small.length gc] 28)) [Value.string B.name, .slice fa2 B.letters.length fc2, .slice ga2 B.small.length gc2] 28)
    simp at this; exact this
  clear hW0
  obtain ⟨r0, r1, r2⟩ := hbr.c3
  have HBa := Lib.hid (And.intro hba hbb)
  clear hba hbb hbr
  go_loop [9] (fun i => ∃ k : Nat, k ≤ R.list.length ∧ ((k : Int) ≤ m ∨ k = 0) ∧ i = .int .i64 k ∧ (∀ (i : Nat) r, i < k → R.list[i]? = some r → r.src.size ≤ 40 ∧ r.dst.size ≤ 40 ∧ r.nxt.size ≤ 40)) (fun i => R.list.length - (intOf i).toNat)
  case atStart => exact ⟨0, Nat.zero_le _, .inr rfl, rfl, by simp⟩
  case round =>
    obtain ⟨k, hk, hkm, rfl, hall⟩ := hrel
    have H := Lib.hid hall
    clear hall
    by_cases hlt : k < R.list.length ∧ (k : Int) < m
    · obtain ⟨hlt, hm⟩ := hlt
      obtain ⟨b, off, rfl, hb, hc⟩ := hl.ruls (by omega)
      have k0 := (hw0.cell (p := ⟨b, off + k * 4, none⟩) hb).trans (hc k hlt).1
      have k1 := (hw0.cell (p := ⟨b, off + k * 4 + 1, none⟩) hb).trans (hc k hlt).2.1
      have k2 := (hw0.cell (p := ⟨b, off + k * 4 + 2, none⟩) hb).trans (hc k hlt).2.2.1
      clear hc hl
      have hnoF : Hid (¬ (R.list[k].src.size ≤ 40 ∧ R.list[k].dst.size ≤ 40 ∧ R.list[k].nxt.size ≤ 40) → ¬ Few13 R A B m) := fun hno hf => hno (hf.1 k _ hm (List.getElem?_eq_getElem hlt))
      have hnext : Hid ((R.list[k].src.size ≤ 40 ∧ R.list[k].dst.size ≤ 40 ∧ R.list[k].nxt.size ≤ 40) → ∀ (i : Nat) r, i < k + 1 → R.list[i]? = some r → r.src.size ≤ 40 ∧ r.dst.size ≤ 40 ∧ r.nxt.size ≤ 40) := fun hy i r hi hr => by
        rcases Nat.lt_succ_iff_lt_or_eq.1 hi with h | rfl
        · exact H.out i r h hr
        · rw [List.getElem?_eq_getElem hlt] at hr; obtain rfl := Option.some.inj hr; exact hy
      obtain ⟨x, hx⟩ : ∃ x, x = R.list[k] := ⟨_, rfl⟩
      rw [← hx] at k0 k1 k2 hnoF hnext
      clear hx
      by_cases hy : x.src.size ≤ 40 ∧ x.dst.size ≤ 40 ∧ x.nxt.size ≤ 40
      · have Hy := Lib.hid (hnext.out hy)
        obtain ⟨y1, y2, y3⟩ := hy
        go_wp2
        exact ⟨⟨k + 1, by omega, by omega, by go_num, Hy.out⟩, by simp [intOf]; omega⟩
      · have Hy := Lib.hid (hnoF.out hy)
        have Hny := Lib.hid hy
        clear hy hnext hnoF
        go_wp2
        all_goals first
          | (go_ret; exact ⟨ret_no Hy.out, hw0⟩)
          | (exfalso; have := Hny.out; omega)
    · by_cases hc : (R.list.length : Int) ≤ m ∧ R.src.size ≤ 100 ∧ R.dst.size ≤ 100
      · obtain ⟨hc1, hc2, hc3⟩ := hc
        have hkl : k = R.list.length := by omega
        have Hall : Hid (∀ (i : Nat) r, (i : Int) < m → R.list[i]? = some r → r.src.size ≤ 40 ∧ r.dst.size ≤ 40 ∧ r.nxt.size ≤ 40) := fun i r _ hr => H.out i r (by have := (List.getElem?_eq_some_iff.1 hr).1; omega) hr
        have q1 := few10_any _ A W0 ((hA.below hw0 (Nat.le_refl _)).more hw0.size)
        obtain ⟨a0, a1, a2⟩ := HBa.out.1.c3
        clear hkl
        by_cases hfa : Few10 A
        · rw [decide_eq_true hfa] at q1
          have Hfa := Lib.hid hfa
          have Q1 := Lib.hid q1
          clear hfa q1
          go_wp2_with fail
          refine Q1.out.mono ?_
          rintro e w5 ⟨rfl, hb5⟩
          obtain ⟨b0, b1, b2⟩ := (HBa.out.2.below hb5 (by omega)).c3
          have hw5 := hw0.trans (hb5.mono hw0.size)
          have q2 := few10_any _ B w5 ((hB.below hw5 (Nat.le_refl _)).more hw5.size)
          have Q2 := Lib.hid q2
          clear q2 a0 a1 a2 r0 r1 r2
          go_wp2_with fail
          refine Q2.out.mono ?_
          rintro e w6 ⟨rfl, hb6⟩
          have Hd := Lib.hid (show decide (Few10 B) = true ↔ Few13 R A B m from by
            rw [decide_eq_true_iff, Few13]
            exact ⟨fun h => ⟨Hall.out, hc1, hc2, hc3, Hfa.out, h⟩, fun h => h.2.2.2.2.2⟩)
          go_wp2
          go_ret
          exact ⟨ret_dec Hd.out, hw5.trans (hb6.mono hw5.size)⟩
        · rw [decide_eq_false hfa] at q1
          have Hfa := Lib.hid hfa
          have Q1 := Lib.hid q1
          clear hfa q1
          go_wp2_with fail
          refine Q1.out.mono ?_
          rintro e w5 ⟨rfl, hb5⟩
          have hw5 := hw0.trans (hb5.mono hw0.size)
          clear a0 a1 a2 r0 r1 r2
          go_wp2
          go_ret
          exact ⟨ret_no (fun hf => Hfa.out hf.2.2.2.2.1), hw5⟩
      · have Hc := Lib.hid hc
        have Hno := Lib.hid (show ¬ Few13 R A B m from fun hf => hc ⟨hf.2.1, hf.2.2.1, hf.2.2.2.1⟩)
        clear hc
        obtain ⟨a0, a1, a2⟩ := HBa.out.1.c3
        go_wp2
        all_goals first
          | (go_ret; exact ⟨ret_no Hno.out, hw0⟩)
          | (exfalso; have := Hc.out; omega)
end Go.Proofs.YtielbaaaipkbdaaGreatDoor

/- Walk: the law CompileMatchesReference, over what its head answers. -/
namespace Go.Proofs.YtielbaaaipkbdaaGreatDoor
open Go.RowKit Classical

/-- What the law's head answers. -/
def HeadOk : Prop := ∀ w : World, Calls Tryz.prog 10 #[] w fun e w' => e = .returned (.bool true) ∧ Below w.heap.size w w'

theorem mach_eq {R : Ruls} {A : Alph} {M N : Mach} {ok : Prop} {e f : Int} (h1 : ¬ ok → e = 1 ∧ M = ⟨0, 0, [], []⟩) (h2 : ok → e = 0 ∧ CompileOf R A M) (k1 : ¬ ok → f = 1 ∧ N = ⟨0, 0, [], []⟩) (k2 : ok → f = 0 ∧ CompileOf R A N) : e = f ∧ M = N := by
  by_cases h : ok
  · obtain ⟨rfl, a⟩ := h2 h
    obtain ⟨rfl, b⟩ := k2 h
    refine ⟨rfl, ?_⟩
    obtain ⟨m1, m2, m3, m4⟩ := M
    obtain ⟨n1, n2, n3, n4⟩ := N
    have e1 : m1 = n1 := a.states.trans b.states.symm
    have e2 : m2 = n2 := a.start.trans b.start.symm
    have e3 : m3 = n3 := a.final.trans b.final.symm
    have e4 : m4 = n4 := a.inc.ext b.inc (fun x => (a.mem x).trans (b.mem x).symm)
    rw [e1, e2, e3, e4]
  · obtain ⟨rfl, rfl⟩ := h1 h
    obtain ⟨rfl, rfl⟩ := k1 h
    exact ⟨rfl, rfl⟩

set_option maxRecDepth 100000 in
set_option maxHeartbeats 2000000 in
theorem law1_any (hhead : HeadOk) (R : Ruls) (A B : Alph) (v va vb : Value) (w : World) (h : RulsAt w w.heap.size v R) (ha : AlphAt w w.heap.size va A) (hb : AlphAt w w.heap.size vb B) :
    Calls Tryz.prog 3 #[v, va, vb] w fun e w' => e = .returned (.bool true) ∧ Below w.heap.size w w' := by
  have hR := h
  have hA := ha
  have hB := hb
  obtain ⟨la, lc, rfl, hs1, hs2, hln, hlr, hl⟩ := h
  obtain ⟨fa, fc, ga, gc, rfl, hn, hl1, hs3, hls, hfl, hfs⟩ := ha
  obtain ⟨fa2, fc2, ga2, gc2, rfl, hn2, hl2, hs4, hls2, hfl2, hfs2⟩ := hb
  go_enter Tryz.func3, Tryz.ntmps3
  go_wp2_with fail
  generalize hW0 : (((w.alloc _).alloc _).alloc _) = W0
  have hw0 : Below w.heap.size w W0 := by rw [← hW0]; exact (((Below.refl _ _).alloc (Nat.le_refl _) _).alloc (by simp) _).alloc (by simp; omega) _
  have hsz : W0.heap.size = w.heap.size + 3 := by rw [← hW0]; simp
  have hbr : Box W0 w.heap.size [Value.string R.src, .string R.dst, .slice la R.list.length lc] := by
    rw [← hW0]; exact ((Box.new _ _ _).alloc (by simp) _).alloc (by simp; omega) _
  have hba : Box W0 (w.heap.size + 1) [Value.string A.name, .slice fa A.letters.length fc, .slice ga A.small.length gc] := by
    rw [← hW0]; have := (Box.new (w.alloc (.cells #[Value.string R.src, .string R.dst, .slice la R.list.length lc] 24)) [Value.string A.name, .slice fa A.letters.length fc, .slice ga A.small.length gc] 28)
    simp at this; exact this.alloc (by simp) _
  have hbb : Box W0 (w.heap.size + 2) [Value.string B.name, .slice fa2 B.letters.length fc2, .slice ga2 B.small.length gc2] := by
    rw [← hW0]; have := (Box.new ((w.alloc (.cells #[Value.string R.src, .string R.dst, .slice la R.list.length lc] 24)).alloc (.cells #[Value.string A.name, .slice fa A.letters.length fc, .slice ga A.small.length gc] 28)) [Value.string B.name, .slice fa2 B.letters.length fc2, .slice ga2 B.small.length gc2] 28)
    simp at this; exact this
  clear hW0
  have Hk := Lib.hid (fun wr (hbw : Below W0.heap.size W0 wr) => And.intro (hbr.below hbw (by omega)).c3 (And.intro (hba.below hbw (by omega)).c3 (hbb.below hbw (by omega)).c3))
  have Har := Lib.hid (fun wr (hbw : Below W0.heap.size W0 wr) => have hw := hw0.trans (hbw.mono hw0.size); And.intro ((hR.below hw (Nat.le_refl _)).more hw.size) (And.intro ((hA.below hw (Nat.le_refl _)).more hw.size) ((hB.below hw (Nat.le_refl _)).more hw.size)))
  clear hbr hba hbb
  refine (hhead W0).mono ?_
  rintro e w1 ⟨rfl, hb1⟩
  obtain ⟨⟨r0, r1, r2⟩, ⟨a0, a1, a2⟩, ⟨b0, b1, b2⟩⟩ := Hk.out w1 hb1
  go_wp2_with fail
  obtain ⟨h1, h2, h3⟩ := Har.out w1 hb1
  refine (few13_any R A B 85 _ _ _ w1 h1 h2 h3).mono ?_
  rintro e w2 ⟨rfl, hb2⟩
  have hb2' := hb1.trans (hb2.mono hb1.size)
  clear r0 r1 r2 a0 a1 a2 b0 b1 b2 h1 h2 h3
  by_cases hf : Few13 R A B 85
  · rw [decide_eq_true hf]
    clear hf
    obtain ⟨⟨r0, r1, r2⟩, ⟨a0, a1, a2⟩, ⟨b0, b1, b2⟩⟩ := Hk.out w2 hb2'
    go_wp2_with fail
    obtain ⟨h1, h2, h3⟩ := Har.out w2 hb2'
    refine (Compile_prog R A B _ _ _ w2 h1 h2 h3).mono ?_
    rintro e w3 ⟨v3, M, err, rfl, hm3, hb3, hno, hok⟩
    clear r0 r1 r2 a0 a1 a2 b0 b1 b2 h1 h2 h3
    have hb3' := hb2'.trans (hb3.mono hb2'.size)
    have hM3 := hm3
    obtain ⟨xa, xc, ya, yc, rfl, hx1, hx2, hx3, hx4⟩ := hm3
    have Hm3 := Lib.hid (And.intro hM3 (And.intro hno hok))
    clear hM3 hno hok hx1 hx2 hx3 hx4
    go_upto_region 5 with (fail)
    obtain ⟨W4, hW4⟩ : ∃ W4 : World, W4 = w3.alloc (.cells #[.int .i64 M.states, .int .i64 M.start, .slice xa M.final.length xc, .slice ya M.arcs.length yc] 33) := ⟨_, rfl⟩
    rw [← hW4]
    have hb4 : Below w3.heap.size w3 W4 := by rw [hW4]; exact (Below.refl _ _).alloc (Nat.le_refl _) _
    have hk4 : Blk W4 w3.heap.size #[.int .i64 M.states, .int .i64 M.start, .slice xa M.final.length xc, .slice ya M.arcs.length yc] 33 := by rw [hW4]; exact Blk.new _ _ _
    have hb4' := hb3'.trans (hb4.mono hb3'.size)
    have Hk4 := Lib.hid hk4
    clear hW4 hk4
    obtain ⟨⟨r0, r1, r2⟩, ⟨a0, a1, a2⟩, ⟨b0, b1, b2⟩⟩ := Hk.out W4 hb4'
    go_wp2_with fail
    obtain ⟨h1, h2, h3⟩ := Har.out W4 hb4'
    refine (Compile13_any R A B _ _ _ W4 h1 h2 h3).mono ?_
    rintro e w5 ⟨v5, N, err5, rfl, hm5, hb5, hno5, hok5⟩
    clear r0 r1 r2 a0 a1 a2 b0 b1 b2 h1 h2 h3
    obtain ⟨herr, hMN⟩ := mach_eq Hm3.out.2.1 Hm3.out.2.2 hno5 hok5
    have HM := Lib.hid hMN
    clear hno5 hok5 hMN
    have hb5' := hb4'.trans (hb5.mono hb4'.size)
    have hM5 := hm5
    obtain ⟨xa5, xc5, ya5, yc5, rfl, _, _, _, _⟩ := hm5
    have Hm5 := Lib.hid hM5
    clear hM5
    go_upto_region 6 with (fail)
    obtain ⟨W6, hW6⟩ : ∃ W6 : World, W6 = w5.alloc (.cells #[.int .i64 N.states, .int .i64 N.start, .slice xa5 N.final.length xc5, .slice ya5 N.arcs.length yc5] 33) := ⟨_, rfl⟩
    rw [← hW6]
    have hb6 : Below w5.heap.size w5 W6 := by rw [hW6]; exact (Below.refl _ _).alloc (Nat.le_refl _) _
    have hk6 : Blk W6 w5.heap.size #[.int .i64 N.states, .int .i64 N.start, .slice xa5 N.final.length xc5, .slice ya5 N.arcs.length yc5] 33 := by rw [hW6]; exact Blk.new _ _ _
    have hk46 := (Hk4.out.below hb5 Hk4.out.lt).below hb6 (Blk.lt (Hk4.out.below hb5 Hk4.out.lt))
    have hb6' := hb5'.trans (hb6.mono hb5'.size)
    have m0 : W6.cell? ⟨w3.heap.size, 0, none⟩ = some (.int .i64 M.states) := hk46.cell 0
    have m1 : W6.cell? ⟨w3.heap.size, 1, none⟩ = some (.int .i64 M.start) := hk46.cell 1
    have m2 : W6.cell? ⟨w3.heap.size, 2, none⟩ = some (.slice xa M.final.length xc) := hk46.cell 2
    have m3 : W6.cell? ⟨w3.heap.size, 3, none⟩ = some (.slice ya M.arcs.length yc) := hk46.cell 3
    have n0 : W6.cell? ⟨w5.heap.size, 0, none⟩ = some (.int .i64 N.states) := hk6.cell 0
    have n1 : W6.cell? ⟨w5.heap.size, 1, none⟩ = some (.int .i64 N.start) := hk6.cell 1
    have n2 : W6.cell? ⟨w5.heap.size, 2, none⟩ = some (.slice xa5 N.final.length xc5) := hk6.cell 2
    have n3 : W6.cell? ⟨w5.heap.size, 3, none⟩ = some (.slice ya5 N.arcs.length yc5) := hk6.cell 3
    have hMA : MachAt W6 W6.heap.size (.agg #[.int .i64 M.states, .int .i64 M.start, .slice xa M.final.length xc, .slice ya M.arcs.length yc]) M :=
      (((Hm3.out.1.below hb4 (Nat.le_refl _)).below hb5 hb4.size).below hb6 (Nat.le_trans hb4.size hb5.size)).more (Nat.le_trans hb4.size (Nat.le_trans hb5.size hb6.size))
    have hNA : MachAt W6 W6.heap.size (.agg #[.int .i64 N.states, .int .i64 N.start, .slice xa5 N.final.length xc5, .slice ya5 N.arcs.length yc5]) N :=
      (Hm5.out.below hb6 (Nat.le_refl _)).more hb6.size
    have hq := Same12_any M N _ _ W6 hMA hNA
    rw [decide_eq_true HM.out] at hq
    have Hq := Lib.hid hq
    clear hq hMA hNA hk46 hk6 hW6
    subst herr
    go_wp2_with fail
    refine Hq.out.mono ?_
    rintro e w7 ⟨rfl, hb7⟩
    have hbF := hw0.trans ((hb6'.trans (hb7.mono hb6'.size)).mono hw0.size)
    clear m0 m1 m2 m3 n0 n1 n2 n3
    go_wp2
    go_ret
    exact ⟨rfl, hbF⟩
  · rw [decide_eq_false hf]
    go_wp2
    go_ret
    exact ⟨rfl, hw0.trans (hb2'.mono hw0.size)⟩
end Go.Proofs.YtielbaaaipkbdaaGreatDoor
