/- Walk: the head of the law CompileMatchesReference. -/
import Derived.Test.YtabocamjaecaaaaGreatDoorK9
import Derived.Test.YtabocamjaecaaaaGreatDoorGQ
import Derived.Test.YtabocamjaecaaaaGreatDoorGF
namespace Go.Proofs.YtabocamjaecaaaaGreatDoor
open Go.RowKit Classical

set_option maxRecDepth 100000 in
set_option maxHeartbeats 4000000 in
theorem head_ok : HeadOk := by
 intro w
 go_enter Tryz.func5, Tryz.ntmps5
 go_wp2_with fail
 refine (sample_any w).mono ?_
 rintro e w1 ⟨v, va, vb, rfl, hR, hA, hB, hb1⟩
 have hR1 := hR
 have hA1 := hA
 have hB1 := hB
 obtain ⟨la, lc, rfl, -, -, -, -, -⟩ := hR
 obtain ⟨fa, fc, ga, gc, rfl, -, -, -, -, -, -⟩ := hA
 obtain ⟨fa2, fc2, ga2, gc2, rfl, -, -, -, -, -, -⟩ := hB
 have HR1 := Lib.hid (And.intro hR1 (And.intro hA1 hB1))
 clear hR1 hA1 hB1
 go_upto_region 2 with (fail)
 generalize hW0 : (((w1.alloc _).alloc _).alloc _) = W0
 have hw0 : Below w1.heap.size w1 W0 := by rw [← hW0]; exact (((Below.refl _ _).alloc (Nat.le_refl _) _).alloc (by simp) _).alloc (by simp; omega) _
 have hsz : W0.heap.size = w1.heap.size + 3 := by rw [← hW0]; simp
 have hbr : Box W0 w1.heap.size [Value.string sampleR.src, .string sampleR.dst, .slice la sampleR.list.length lc] := by
  rw [← hW0]; exact ((Box.new _ _ _).alloc (by simp) _).alloc (by simp; omega) _
 have hba : Box W0 (w1.heap.size + 1) [Value.string sampleA.name, .slice fa sampleA.letters.length fc, .slice ga sampleA.small.length gc] := by
  rw [← hW0]; have := (Box.new (w1.alloc (.cells #[Value.string sampleR.src, .string sampleR.dst, .slice la sampleR.list.length lc] 24)) [Value.string sampleA.name, .slice fa sampleA.letters.length fc, .slice ga sampleA.small.length gc] 28)
  simp at this; exact this.alloc (by simp) _
 have hbb : Box W0 (w1.heap.size + 2) [Value.string sampleB.name, .slice fa2 sampleB.letters.length fc2, .slice ga2 sampleB.small.length gc2] := by
  rw [← hW0]; have := (Box.new ((w1.alloc (.cells #[Value.string sampleR.src, .string sampleR.dst, .slice la sampleR.list.length lc] 24)).alloc (.cells #[Value.string sampleA.name, .slice fa sampleA.letters.length fc, .slice ga sampleA.small.length gc] 28)) [Value.string sampleB.name, .slice fa2 sampleB.letters.length fc2, .slice ga2 sampleB.small.length gc2] 28)
  simp at this; exact this
 clear hW0
 have Hk := Lib.hid (fun wr (hbw : Below W0.heap.size W0 wr) => And.intro (hbr.below hbw (by omega)).c3 (And.intro (hba.below hbw (by omega)).c3 (hbb.below hbw (by omega)).c3))
 have Har := Lib.hid (fun wr (hbw : Below W0.heap.size W0 wr) => have hw := hw0.trans (hbw.mono hw0.size); And.intro ((HR1.out.1.below hw (Nat.le_refl _)).more hw.size) (And.intro ((HR1.out.2.1.below hw (Nat.le_refl _)).more hw.size) ((HR1.out.2.2.below hw (Nat.le_refl _)).more hw.size)))
 have Hw0 := Lib.hid (hb1.trans (hw0.mono hb1.size))
 clear hbr hba hbb hw0 hb1 HR1
 obtain ⟨⟨r0, r1, r2⟩, ⟨a0, a1, a2⟩, ⟨b0, b1, b2⟩⟩ := Hk.out W0 (Below.refl _ _)
 go_wp2_with fail
 obtain ⟨h1, h2, h3⟩ := Har.out W0 (Below.refl _ _)
 refine (Compile_prog sampleR sampleA sampleB _ _ _ W0 h1 h2 h3).mono ?_
 rintro e w2 ⟨v2, M, err, rfl, hm2, hb2, -, hok⟩
 clear r0 r1 r2 a0 a1 a2 b0 b1 b2 h1 h2 h3
 obtain ⟨rfl, hco⟩ := hok sample_valid
 have hM := want_of hco
 subst hM
 clear hok hco
 have hM2 := hm2
 obtain ⟨xa, xc, ya, yc, rfl, -, -, -, -⟩ := hm2
 have Hm2 := Lib.hid hM2
 clear hM2
 go_upto_region 3 with (fail)
 generalize hW3 : (w2.alloc _) = W3
 have hb3 : Below w2.heap.size w2 W3 := by rw [← hW3]; exact (Below.refl _ _).alloc (Nat.le_refl _) _
 have k3 : Blk W3 w2.heap.size #[.int .i64 wantM.states, .int .i64 wantM.start, .slice xa wantM.final.length xc, .slice ya wantM.arcs.length yc] 32 := by rw [← hW3]; exact Blk.new _ _ _
 have hM3 : MachAt W3 W3.heap.size (.agg #[.int .i64 wantM.states, .int .i64 wantM.start, .slice xa wantM.final.length xc, .slice ya wantM.arcs.length yc]) wantM := (Hm2.out.below hb3 (Nat.le_refl _)).more hb3.size
 have hs3 : w2.heap.size < W3.heap.size := k3.lt
 have hB3 : Below W0.heap.size W0 W3 := hb2.trans (hb3.mono hb2.size)
 clear hW3 Hm2 hb3 hb2
 have H3 := Lib.hid (And.intro k3 (And.intro hM3 hB3))
 clear k3 hM3 hB3
 go_upto_region 4 with (fail)
 generalize hW4 : (((W3.alloc _).alloc _).alloc _) = W4
 have hb4 : Below W3.heap.size W3 W4 := by rw [← hW4]; exact (((Below.refl _ _).alloc (Nat.le_refl _) _).alloc (by simp) _).alloc (by simp; omega) _
 have kf : Blk W4 W3.heap.size (nums wantM.final).toArray 3 := by
  rw [← hW4]; exact ((Blk.new _ _ _).alloc _).alloc _
 have ka : Blk W4 (W3.heap.size + 1) (flat wantM.arcs).toArray 49 := by
  rw [← hW4]; exact (Blk.new_at (by simp) _ _).alloc _
 have k6 : Blk W4 (W3.heap.size + 2) #[.int .i64 5, .int .i64 0, .slice (some ⟨W3.heap.size, 0, none⟩) 2 2, .slice (some ⟨W3.heap.size + 1, 0, none⟩) 8 8] 32 := by
  rw [← hW4]; exact Blk.new_at (by simp) _ _
 clear hW4
 have hf := kf.lt
 have ha := ka.lt
 have hN4 : MachAt W4 W4.heap.size (.agg #[.int .i64 5, .int .i64 0, .slice (some ⟨W3.heap.size, 0, none⟩) 2 2, .slice (some ⟨W3.heap.size + 1, 0, none⟩) 8 8]) wantM :=
  ⟨_, _, _, _, rfl, by decide, by decide, fun _ => ⟨_, 0, rfl, hf, fun i x hx => by rw [Nat.zero_add]; exact (kf.cell i).trans (by simpa using hx)⟩,
   fun _ => ⟨_, 0, rfl, ha, fun i x hx => by rw [Nat.zero_add]; exact (ka.cell i).trans (by simpa using hx)⟩⟩
 clear kf ka hf ha
 have hM4 := (H3.out.2.1.below hb4 (Nat.le_refl _)).more hb4.size
 have k4 := H3.out.1.below hb4 hs3
 have m0 : W4.cell? ⟨w2.heap.size, 0, none⟩ = some (.int .i64 wantM.states) := k4.cell 0
 have m1 : W4.cell? ⟨w2.heap.size, 1, none⟩ = some (.int .i64 wantM.start) := k4.cell 1
 have m2 : W4.cell? ⟨w2.heap.size, 2, none⟩ = some (.slice xa wantM.final.length xc) := k4.cell 2
 have m3 : W4.cell? ⟨w2.heap.size, 3, none⟩ = some (.slice ya wantM.arcs.length yc) := k4.cell 3
 have hB4 : Below W0.heap.size W0 W4 := H3.out.2.2.trans (hb4.mono H3.out.2.2.size)
 have H4 := Lib.hid (And.intro k4 (And.intro hM4 (And.intro k6 (And.intro hN4 hB4))))
 clear k4 hM4 k6 hN4 hB4 H3 hs3 hb4
 go_wp2_with fail
 have hq := Runs_any wantM _ ⟨#[97, 110, 98]⟩ (by decide) W4 H4.out.2.1
 refine hq.mono ?_
 clear m0 m1 m2 m3 hq
 rintro e w5 ⟨v5, ts, err, rfl, ⟨a5, c5, rfl, hrow5⟩, hb5, hro⟩
 obtain ⟨rfl, rfl⟩ := want_anb (show RunsOf wantM [97, 110, 98] _ _ from hro)
 clear hro
 have H5 := Lib.hid (And.intro hrow5 (And.intro (H4.out.1.below hb5 H4.out.1.lt) (And.intro ((H4.out.2.1.below hb5 (Nat.le_refl _)).more hb5.size)
  (And.intro (H4.out.2.2.1.below hb5 H4.out.2.2.1.lt) (And.intro ((H4.out.2.2.2.1.below hb5 (Nat.le_refl _)).more hb5.size) (H4.out.2.2.2.2.trans (hb5.mono H4.out.2.2.2.2.size)))))))
 clear hrow5 hb5 H4
 go_upto_region 5 with (fail)
 have k5 := H5.out.2.1
 have m0 : w5.cell? ⟨w2.heap.size, 0, none⟩ = some (.int .i64 wantM.states) := k5.cell 0
 have m1 : w5.cell? ⟨w2.heap.size, 1, none⟩ = some (.int .i64 wantM.start) := k5.cell 1
 have m2 : w5.cell? ⟨w2.heap.size, 2, none⟩ = some (.slice xa wantM.final.length xc) := k5.cell 2
 have m3 : w5.cell? ⟨w2.heap.size, 3, none⟩ = some (.slice ya wantM.arcs.length yc) := k5.cell 3
 clear k5
 go_wp2_with fail
 have hq := Runs_any wantM _ ⟨#[97, 110]⟩ (by decide) w5 H5.out.2.2.1
 refine hq.mono ?_
 clear m0 m1 m2 m3 hq
 rintro e w6 ⟨v6, ts, err, rfl, ⟨a6, c6, rfl, -⟩, hb6, hro⟩
 obtain ⟨rfl, rfl⟩ := want_an (show RunsOf wantM [97, 110] _ _ from hro)
 clear hro
 have H6 := Lib.hid (And.intro ((H5.out.1.below hb6 (Nat.le_refl _)).more hb6.size) (And.intro (H5.out.2.1.below hb6 H5.out.2.1.lt) (And.intro ((H5.out.2.2.1.below hb6 (Nat.le_refl _)).more hb6.size)
  (And.intro (H5.out.2.2.2.1.below hb6 H5.out.2.2.2.1.lt) (And.intro ((H5.out.2.2.2.2.1.below hb6 (Nat.le_refl _)).more hb6.size) (H5.out.2.2.2.2.2.trans (hb6.mono H5.out.2.2.2.2.2.size)))))))
 clear hb6 H5
 go_upto_region 6 with (fail)
 obtain ⟨⟨r0, r1, r2⟩, ⟨a0, a1, a2⟩, ⟨b0, b1, b2⟩⟩ := Hk.out w6 H6.out.2.2.2.2.2
 go_wp2_with fail
 obtain ⟨h1, h2, h3⟩ := Har.out w6 H6.out.2.2.2.2.2
 refine (Compile_prog sampleR sampleB sampleA _ _ _ w6 h1 h3 h2).mono ?_
 rintro e w7 ⟨v7, M7, err7, rfl, hm7, hb7, hno, -⟩
 clear r0 r1 r2 a0 a1 a2 b0 b1 b2 h1 h2 h3
 obtain ⟨rfl, rfl⟩ := hno sample_swapped
 clear hno
 obtain ⟨xa7, xc7, ya7, yc7, rfl, -, -, -, -⟩ := hm7
 go_upto_region 7 with (fail)
 generalize hW8 : (w7.alloc _) = W8
 have hb8 : Below w7.heap.size w7 W8 := by rw [← hW8]; exact (Below.refl _ _).alloc (Nat.le_refl _) _
 clear hW8
 have hb68 := hb7.trans (hb8.mono hb7.size)
 have H8 := Lib.hid (And.intro ((H6.out.1.below hb68 (Nat.le_refl _)).more hb68.size) (And.intro (H6.out.2.1.below hb68 H6.out.2.1.lt) (And.intro ((H6.out.2.2.1.below hb68 (Nat.le_refl _)).more hb68.size)
  (And.intro (H6.out.2.2.2.1.below hb68 H6.out.2.2.2.1.lt) (And.intro ((H6.out.2.2.2.2.1.below hb68 (Nat.le_refl _)).more hb68.size) (H6.out.2.2.2.2.2.trans (hb68.mono H6.out.2.2.2.2.2.size)))))))
 clear hb68 hb7 hb8 H6
 have k8 := H8.out.2.1
 have m0 : W8.cell? ⟨w2.heap.size, 0, none⟩ = some (.int .i64 wantM.states) := k8.cell 0
 have m1 : W8.cell? ⟨w2.heap.size, 1, none⟩ = some (.int .i64 wantM.start) := k8.cell 1
 have m2 : W8.cell? ⟨w2.heap.size, 2, none⟩ = some (.slice xa wantM.final.length xc) := k8.cell 2
 have m3 : W8.cell? ⟨w2.heap.size, 3, none⟩ = some (.slice ya wantM.arcs.length yc) := k8.cell 3
 have k9 := H8.out.2.2.2.1
 have n0 : W8.cell? ⟨W3.heap.size + 2, 0, none⟩ = some (.int .i64 5) := k9.cell 0
 have n1 : W8.cell? ⟨W3.heap.size + 2, 1, none⟩ = some (.int .i64 0) := k9.cell 1
 have n2 : W8.cell? ⟨W3.heap.size + 2, 2, none⟩ = some (.slice (some ⟨W3.heap.size, 0, none⟩) 2 2) := k9.cell 2
 have n3 : W8.cell? ⟨W3.heap.size + 2, 3, none⟩ = some (.slice (some ⟨W3.heap.size + 1, 0, none⟩) 8 8) := k9.cell 3
 clear k8 k9
 have hq := Same12_any wantM wantM _ _ W8 H8.out.2.2.1 H8.out.2.2.2.2.1
 rw [decide_eq_true rfl] at hq
 have Hq := Lib.hid hq
 clear hq
 go_wp2_with fail
 refine Hq.out.mono ?_
 rintro e w9 ⟨rfl, hb9⟩
 clear m0 m1 m2 m3 n0 n1 n2 n3 Hq
 have hrow := (H8.out.1.below hb9 (Nat.le_refl _)).more hb9.size
 have hB9 := Hw0.out.trans ((H8.out.2.2.2.2.2.trans (hb9.mono H8.out.2.2.2.2.2.size)).mono Hw0.out.size)
 have H9 := Lib.hid (And.intro hrow hB9)
 clear hrow hB9 H8 hb9
 go_wp2_with fail
 have hA : Below w9.heap.size w9 (w9.alloc (.cells #[.string ⟨#[98, 97, 98]⟩] 9)) := (Below.refl _ _).alloc (Nat.le_refl _) _
 have kb : Blk (w9.alloc (.cells #[.string ⟨#[98, 97, 98]⟩] 9)) w9.heap.size #[.string ⟨#[98, 97, 98]⟩] 9 := Blk.new _ _ _
 have hl := kb.lt
 have hrow := (H9.out.1.below hA (Nat.le_refl _)).more hA.size
 have hrow2 : RowAt (w9.alloc (.cells #[.string ⟨#[98, 97, 98]⟩] 9)) (w9.alloc (.cells #[.string ⟨#[98, 97, 98]⟩] 9)).heap.size (some ⟨w9.heap.size, 0, none⟩) (strs [bs [98, 97, 98]]) :=
  fun _ => ⟨_, 0, rfl, hl, fun i x hx => by rw [Nat.zero_add]; exact (kb.cell i).trans (by simpa [strs, bs] using hx)⟩
 have hB := H9.out.2.trans (hA.mono H9.out.2.size)
 have ht := Texts12_any [bs [98, 97, 98]] [bs [98, 97, 98]] a5 (some ⟨w9.heap.size, 0, none⟩) c5 1 (by simp [maxLen]) _ hrow hrow2
 rw [decide_eq_true rfl] at ht
 clear hl kb hrow hrow2 hA
 refine ht.mono ?_
 rintro e wT ⟨rfl, hbT⟩
 have hbF := hB.trans (hbT.mono hB.size)
 clear ht hB
 go_wp2
 go_ret
 exact ⟨rfl, hbF⟩
end Go.Proofs.YtabocamjaecaaaaGreatDoor
