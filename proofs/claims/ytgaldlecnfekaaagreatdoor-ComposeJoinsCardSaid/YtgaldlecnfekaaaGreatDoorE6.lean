/- Walk: the law ComposeJoins. -/
import Derived.Test.YtgaldlecnfekaaaGreatDoorEH
import Derived.Test.YtgaldlecnfekaaaGreatDoorV1
import Derived.Deep.RegionHeld3
import Derived.Maps.AppendAt
namespace Go.Proofs.YtgaldlecnfekaaaGreatDoor
open Go.RowKit Classical

theorem info_str : (Tryz.prog.info? 9).map (fun i => (i.zero, i.size, i.bytes)) = some (some (.string ⟨#[]⟩), 1, 16) := by kernel_rfl
theorem strs_snoc (l : List ByteArray) (x : ByteArray) : strs (l ++ [x]) = strs l ++ [.string x] := by simp [strs]
/-- The row of what was found, and a row that the walk reads beside it. -/
def Two (w : World) (base : Nat) (o : Value) (found : List ByteArray) (az : Option Addr) (z : List ByteArray) : Prop :=
  w.ownsRow base 9 1 o found.length (strs found) ∧ RowAt w w.heap.size az (strs z) ∧ ∀ p, az = some p → o.ownBlock ≠ some p.block
theorem Two.app {w w2 : World} {base : Nat} {o v : Value} {found z : List ByteArray} {az : Option Addr} {x : ByteArray} {ob : Obj} (h : Two w base o found az z) (hz : 0 < z.length)
    (hown : w2.ownsRow base 9 1 v (found.length + 1) (strs found ++ [.string x])) (hg : (w.alloc ob).grownBy w2 o.ownBlock) (hat : v.ownBlock = o.ownBlock ∨ v.ownBlock = some (w.heap.size + 1)) :
    Two w2 base v (found ++ [x]) az z := by
  obtain ⟨h1, h2, h3⟩ := h
  have hb : Below w.heap.size w (w.alloc ob) := (Below.refl _ _).alloc (Nat.le_refl _) _
  obtain ⟨b, off, e, hb1, hc⟩ := h2 (by simpa [strs] using hz)
  subst e
  have hs := hg.size
  have hsa : (w.alloc ob).heap.size = w.heap.size + 1 := by simp
  refine ⟨by rw [strs_snoc, List.length_append]; exact hown, fun _ => ⟨b, off, rfl, by omega, fun i y hi => ?_⟩, fun p hp => ?_⟩
  · exact hg.cell ((hb.cell (p := ⟨b, off + i, none⟩) hb1).trans (hc i y hi)) (fun e => h3 _ rfl e.symm)
  · injection hp with hp
    subst hp
    rcases hat with q | q
    · rw [q]; exact h3 _ rfl
    · rw [q]; intro e; injection e with e; simp only at e; omega

set_option maxRecDepth 100000 in
set_option maxHeartbeats 4000000 in
theorem joins_any (M : Mach) (vm : Value) (N : Mach) (vn : Value) (x : ByteArray) (w : World) (hm : MachAt w w.heap.size vm M) (hn : MachAt w w.heap.size vn N) (hx : x.size ≤ maxLen) :
    Calls Tryz.prog 4 #[vm, vn, .string x] w fun e w' => e = .returned (.bool true) ∧ Below w.heap.size w w' := by
  have Hm := Lib.hid (stays_mach hm)
  obtain ⟨fm, gm, am, bm, rfl, -, -, -, -⟩ := hm
  have Hn := Lib.hid (stays_mach hn)
  obtain ⟨fn, gn, an, bn, rfl, -, -, -, -⟩ := hn
  go_enter Tryz.func4, Tryz.ntmps4
  go_wp2_with fail
  generalize hW0 : ((w.alloc _).alloc _) = W0
  have F := Lib.hid ((((Stays.self w).put Hm.out (b := w.heap.size) rfl).put (Hn.out.alloc _) (b := w.heap.size + 1) (by simp)).gen hW0)
  clear hW0 Hm Hn
  refine (head14_any W0).mono ?_
  rintro e w1 ⟨rfl, hb⟩
  have F' := Lib.hid (F.out.move hb)
  clear F hb
  have F := F'
  clear F'
  obtain ⟨-, km, -⟩ := F.out.now
  have m0 := km.c0
  have m1 := km.c1
  have m2 := km.c2
  have m3 := km.c3
  have mm := km.mach
  clear km
  obtain ⟨kn, -, -⟩ := F.out.now
  have n0 := kn.c0
  have n1 := kn.c1
  have n2 := kn.c2
  have n3 := kn.c3
  have mn := kn.mach
  clear kn
  go_wp2_with fail
  generalize hWa : (w1.alloc _) = w2
  have hk := ((stays_blk (Blk.new w1 _ _)).gen hWa).now
  have F' := Lib.hid ((F.out.alloc _).gen hWa)
  clear F
  have F := F'
  clear F' hWa
  obtain ⟨kn, km, -⟩ := F.out.now
  clear m0 m1 m2 m3 mm n0 n1 n2 n3 mn
  refine (few14_any [M, N] w1.heap.size 0 2 w2 (by simp) hk.lt (mrow2 hk km kn)).mono ?_
  clear hk km kn
  rintro e w3 ⟨rfl, hb⟩
  have F' := Lib.hid (F.out.move hb)
  clear F hb
  have F := F'
  clear F'
  obtain ⟨-, -, hbw⟩ := F.out.now
  by_cases hf : ¬ (∀ Q ∈ [M, N], FewM Q)
  · rw [decide_eq_false hf]
    clear hf
    go_wp2
    go_ret
    exact ⟨rfl, hbw⟩
  rw [decide_eq_true (Classical.not_not.1 hf)]
  have Few := Lib.hid (Classical.not_not.1 hf)
  clear hf hbw
  by_cases hl : 8 < x.size
  · have d1 : decide ((x.size : Int) > 8) = true := by simp; omega
    have d2 : decide (8 < (x.size : Int)) = true := by simp; omega
    obtain ⟨-, -, hbw⟩ := F.out.now
    go_wp2
    go_ret
    exact ⟨rfl, hbw⟩
  have d1 : decide ((x.size : Int) > 8) = false := by simp; omega
  have d2 : decide (8 < (x.size : Int)) = false := by simp; omega
  have hx8 : x.size ≤ 8 := by omega
  clear hl
  obtain ⟨-, km, -⟩ := F.out.now
  have m0 := km.c0
  have m1 := km.c1
  have m2 := km.c2
  have m3 := km.c3
  have mm := km.mach
  clear km
  obtain ⟨kn, -, -⟩ := F.out.now
  have n0 := kn.c0
  have n1 := kn.c1
  have n2 := kn.c2
  have n3 := kn.c3
  have mn := kn.mach
  clear kn
  go_wp2_with fail
  refine (Compose_any M N _ _ w3 mm mn).mono ?_
  rintro e w4 ⟨vc, C, e, rfl, hm, hb, hC⟩
  clear m0 m1 m2 m3 mm n0 n1 n2 n3 mn
  have C1 := Lib.hid hC
  clear hC
  have G := Lib.hid (stays_mach hm)
  obtain ⟨fc, gc, ac, bc, rfl, -, -, -, -⟩ := hm
  go_upto_region 5 with (fail)
  generalize hWa : (w4.alloc _) = w5
  have F' := Lib.hid (((F.out.move hb).put G.out rfl).gen hWa)
  have hlt : w4.heap.size < w5.heap.size := by rw [← hWa]; simp
  clear F hb G hWa hlt
  have F := F'
  clear F'
  clear d1 d2
  obtain ⟨-, -, km, -⟩ := F.out.now
  have m0 := km.c0
  have m1 := km.c1
  have m2 := km.c2
  have m3 := km.c3
  have mm := km.mach
  clear km
  go_wp2_with fail
  refine (Runs_any M _ x hx w5 mm).mono ?_
  rintro e w6 ⟨vr, l, f, rfl, ⟨pl, cl, rfl, hr⟩, hb, hr1⟩
  clear m0 m1 m2 m3 mm
  have F' := Lib.hid (((F.out.move hb).and (stays_row hr)).weak fun _ h => And.intro h.2 h.1)
  clear F hb hr
  have F := F'
  clear F'
  have R1 := Lib.hid hr1
  clear hr1
  go_upto_region 6 with (fail)
  obtain ⟨-, -, kn, -, -⟩ := F.out.now
  have n0 := kn.c0
  have n1 := kn.c1
  have n2 := kn.c2
  have n3 := kn.c3
  have mn := kn.mach
  clear kn
  go_wp2_with fail
  refine (Runs_any N _ ⟨#[]⟩ (by decide) w6 mn).mono ?_
  rintro e w7 ⟨vr, b, g, rfl, ⟨pb, cb, rfl, hr⟩, hb, hr2⟩
  clear n0 n1 n2 n3 mn
  have F' := Lib.hid (((F.out.move hb).and (stays_row hr)).weak fun _ h => And.intro h.2 h.1)
  clear F hb hr
  have F := F'
  clear F'
  have R2 := Lib.hid hr2
  clear hr2
  go_upto_region 7 with (fail)
  have hv := joins_1 (by rw [bl_length]; omega) (Few.out M (by simp)) (Few.out N (by simp)) C1.out R1.out R2.out
  clear C1
  rcases hv with ⟨rfl, rfl⟩ | ⟨hf1, rfl, rfl⟩ | ⟨hf1, hg1, rfl, hv⟩
  · obtain ⟨-, -, -, -, -, hbw⟩ := F.out.now
    go_wp2
    go_ret
    exact ⟨rfl, hbw⟩
  · have df1 : (f == 1) = false := by simp [hf1]
    have cf1 : (f != 1) = true := by simp [hf1]
    obtain ⟨-, -, -, -, -, hbw⟩ := F.out.now
    go_wp2
    go_ret
    exact ⟨rfl, hbw⟩
  have V := Lib.hid hv
  clear hv
  have df1 : (f == 1) = false := by simp [hf1]
  have cf1 : (f != 1) = true := by simp [hf1]
  have dg1 : (g == 1) = false := by simp [hg1]
  have cg1 : (g != 1) = true := by simp [hg1]
  have H1 := Lib.hid (And.intro hf1 hg1)
  clear hf1 hg1
  go_upto_region 11 with (fail)
  obtain ⟨-, -, kc, -, -, -⟩ := F.out.now
  have c0 := kc.c0
  have c1 := kc.c1
  have c2 := kc.c2
  have c3 := kc.c3
  have mc := kc.mach
  clear kc
  go_wp2_with fail
  refine (Runs_any C _ x hx w7 mc).mono ?_
  rintro e w8 ⟨vr, all, h, rfl, ⟨pall, call, rfl, hr⟩, hb, hr3⟩
  clear c0 c1 c2 c3 mc
  have F' := Lib.hid (((F.out.move hb).and (stays_row hr)).weak fun _ h => And.intro h.2 h.1)
  clear F hb hr
  have F := F'
  clear F'
  go_upto_region 12 with (fail)
  have hv := joins_2 (by rw [bl_length]; omega) (Few.out M (by simp)) V.out.1 V.out.2.1 V.out.2.2 R1.out R2.out hr3
  have nl := runs_len R1.out
  have nc := runs_len hr3
  clear hr3 R2 df1 cf1 dg1 cg1 H1
  rcases hv with hf0 | ⟨rfl, rfl⟩ | ⟨rfl, hg12, rfl⟩ | ⟨rfl, hg12, rfl, hs, hz, hm⟩
  · have df0 : (f == 0) = false := by simp [hf0]
    have cf0 : (f != 0) = true := by simp [hf0]
    obtain ⟨-, -, -, -, -, -, hbw⟩ := F.out.now
    go_wp2
    go_ret
    exact ⟨rfl, hbw⟩
  · obtain ⟨-, -, -, -, -, -, hbw⟩ := F.out.now
    go_wp2
    go_ret
    exact ⟨rfl, hbw⟩
  · have dg12 : (g == 12) = false := by simp [hg12]
    have cg12 : (g != 12) = true := by simp [hg12]
    obtain ⟨-, -, -, -, -, -, hbw⟩ := F.out.now
    go_wp2
    go_ret
    exact ⟨rfl, hbw⟩
  have dg12 : (g == 12) = false := by simp [hg12]
  have cg12 : (g != 12) = true := by simp [hg12]
  have S := Lib.hid (And.intro hs (And.intro hz hm))
  have Hsz := Lib.hid (fun (u : ByteArray) (hu : u ∈ l) => runs_small R1.out (Few.out M (by simp)) V.out.1 (by rw [bl_length]; omega) hu)
  clear hs hz hm V R1 Few
  go_upto_region 16 with (fail)
  have FA := F
  clear F dg12 cg12 hg12
  obtain ⟨i0, hi, hz0, hz1, hz2⟩ := info_parts info_str
  go_wp2_with fail
  go_loopw [16, 17, 18] (fun c o i wx => ∃ (k : Nat) (found : List ByteArray), k ≤ l.length ∧ i = .int .i64 k ∧ c = .int .i64 found.length ∧ JInv N l k found ∧ wx.ownsRow w8.heap.size 9 1 o found.length (strs found) ∧ Below w8.heap.size w8 wx) (fun _ _ i _ => l.length - (intOf i).toNat)
  case atStart => exact ⟨0, [], Nat.zero_le _, rfl, rfl, JInv.zero, World.ownsRow_nil _ _ _ _, Below.refl _ _⟩
  case round =>
    obtain ⟨k, found, hk, rfl, rfl, hj, hown, hb⟩ := hrel
    obtain ⟨wo, rfl⟩ : ∃ wo : World, wo = wr := ⟨_, rfl⟩
    have F := Lib.hid (FA.out.move hb)
    have HR := Lib.hid (And.intro hj (And.intro hown hb))
    clear hj hown hb
    by_cases hkl : k < l.length
    · obtain ⟨-, -, kl, -, kn, -, -⟩ := F.out.now
      have n0 := kn.c0
      have n1 := kn.c1
      have n2 := kn.c2
      have n3 := kn.c3
      obtain ⟨gx, ox, rfl, hgx, hcx⟩ := kl.strs (by omega)
      have x0 := hcx k hkl
      have hsz := Hsz.out _ (List.getElem_mem hkl)
      have Hres := Lib.hid (S.out.2.1 _ (List.getElem_mem hkl))
      obtain ⟨u, hu⟩ : ∃ u, l[k] = u := ⟨_, rfl⟩
      rw [hu] at x0 hsz
      have HQ := Lib.hid (Runs_new N _ u (by unfold maxLen; omega) wo.drew kn.mach)
      have hln := kn.lt
      have Hu := Lib.hid hu
      clear hcx hsz hu kn kl
      go_wp2_with fail
      go_region_held3 (fun w' => w'.cell? ⟨w.heap.size + 1, 0, none⟩ = some (.int .i64 N.states) ∧ w'.cell? ⟨w.heap.size + 1, 1, none⟩ = some (.int .i64 N.start) ∧ w'.cell? ⟨w.heap.size + 1, 2, none⟩ = some (.slice fn N.final.length gn) ∧ w'.cell? ⟨w.heap.size + 1, 3, none⟩ = some (.slice an N.arcs.length bn) ∧ w'.cell? ⟨gx, ox + k, none⟩ = some (.string u))
        (first | exact ⟨n0, n1, n2, n3, x0⟩ | exact ⟨y0, y1, y2, y3, z0⟩ | go_keep)
        (first | (go_at_call 22; refine HQ.out.mono ?_; rintro e wB ⟨vz, z, err, rfl, hzo, hbB, hroB⟩; obtain ⟨az, cz, rfl, -, -⟩ := RowAt.of_own hzo; have y0 := (hbB.cell (p := ⟨w.heap.size + 1, 0, none⟩) hln).trans n0; have y1 := (hbB.cell (p := ⟨w.heap.size + 1, 1, none⟩) hln).trans n1; have y2 := (hbB.cell (p := ⟨w.heap.size + 1, 2, none⟩) hln).trans n2; have y3 := (hbB.cell (p := ⟨w.heap.size + 1, 3, none⟩) hln).trans n3; have z0 := (hbB.cell (p := ⟨gx, ox + k, none⟩) hgx).trans x0))
      all_goals (
        have hres := Hres.out
        rw [Hu.out] at hres
        have hv := hres z err hroB
        have nz := runs_len hroB
        have HB := Lib.hid (And.intro hzo hbB)
        clear n0 n1 n2 n3 x0 y0 y1 y2 y3 z0 hroB hzo hbB hres Hres HQ
        rcases hv with rfl | ⟨rfl, hz⟩
        · have hbw := F.out.now
          obtain ⟨-, -, -, -, -, -, hbw⟩ := hbw
          have hbF := hbw.drew.trans (HB.out.2.mono hbw.size)
          clear F
          go_wp2
          go_ret
          exact ⟨rfl, hbF⟩
        rw [← Hu.out] at hz
        have HZ := Lib.hid hz
        have hbB : Below w8.heap.size w8 wB := HR.out.2.2.drew.trans (HB.out.2.mono HR.out.2.2.size)
        have hzr : RowAt wB wB.heap.size az (strs z) := by obtain ⟨a', c', e, _, h⟩ := RowAt.of_own HB.out.1; injection e with e1; subst e1; exact h
        have hfar : ∀ p, az = some p → u17.ownBlock ≠ some p.block := fun p hp ho => by
          have h1 := (HR.out.2.1.lt _ ho).2
          have h2 := (HB.out.1.lt p.block (by rw [hp]; rfl)).1
          simp at h2
          omega
        have HT := Lib.hid (show Two wB w8.heap.size u17 found az z from ⟨own_below (own_drew HR.out.2.1) HB.out.2, hzr, hfar⟩)
        have HBB := Lib.hid hbB
        clear hz hbB hzr hfar HB F
        go_wp2_with fail
        go_loopw [16, 17, 21] (fun c o j wx => ∃ (q : Nat) (fd : List ByteArray), q ≤ z.length ∧ j = .int .i64 q ∧ c = .int .i64 fd.length ∧ JIn N l k z q fd ∧ Two wx w8.heap.size o fd az z ∧ Below w8.heap.size w8 wx) (fun _ _ j _ => z.length - (intOf j).toNat)
        case atStart => exact ⟨0, found, Nat.zero_le _, rfl, rfl, HR.out.1.inner, HT.out, HBB.out⟩
        case round =>
          obtain ⟨q, fd, hq, rfl, rfl, hj, ho, hb⟩ := hrel
          have hfd := hj.le hkl HZ.out S.out.2.2
          have HI := Lib.hid (And.intro hj (And.intro ho hb))
          clear hj ho hb
          by_cases hqz : q < z.length
          · have F := Lib.hid (FA.out.move HI.out.2.2)
            obtain ⟨kall, -, -, -, -, -, -⟩ := F.out.now
            obtain ⟨gz, oz, rfl, hgz, hcz⟩ := HI.out.2.1.2.1.strs (by omega)
            have x0 := hcz q hqz
            have hin := joins_mem hkl HZ.out S.out.2.2 (List.getElem_mem hqz)
            have hst := HI.out.1.step hqz
            obtain ⟨t, ht⟩ : ∃ t, z[q] = t := ⟨_, rfl⟩
            rw [ht] at x0 hin hst
            obtain ⟨ao, co, rfl, -, hro⟩ := RowAt.of_own HI.out.2.1.1
            have hq1 := has14_any all pall call t wr (by unfold maxLen; omega) kall
            rw [decide_eq_true hin] at hq1
            have hq2 := has14_any fd ao co t wr (by unfold maxLen; omega) hro
            have HQ1 := Lib.hid hq1
            have HQ2 := Lib.hid hq2
            have HS := Lib.hid hst
            clear hq1 hq2 hin ht hcz kall hro hst F
            go_wp2_with fail
            refine HQ1.out.mono ?_
            rintro e w9 ⟨rfl, hwe⟩
            have hwe := hwe.symm
            subst hwe
            go_wp2_with fail
            refine HQ2.out.mono ?_
            rintro e w9 ⟨rfl, hwe⟩
            have hwe := hwe.symm
            subst hwe
            by_cases hm : t ∈ fd
            · rw [decide_eq_true hm]
              have hst : JIn N l k z (q + 1) fd := by have := HS.out; unfold addT at this; rwa [if_pos hm] at this
              have HS' := Lib.hid hst
              clear hst hm HS
              go_wp2
              exact ⟨⟨q + 1, fd, by omega, by go_num, rfl, HS'.out, HI.out.2.1, HI.out.2.2⟩, by simp [intOf]; omega⟩
            · rw [decide_eq_false hm]
              have hst : JIn N l k z (q + 1) (fd ++ [t]) := by have := HS.out; unfold addT at this; rwa [if_neg hm] at this
              have HS' := Lib.hid hst
              clear hst hm HS
              go_wp2_with (at_builtin; refine wpList_append_own_at _ rfl _ _ 26 rfl w8.heap.size 9 i0 (.string ⟨#[]⟩) 1 16 Tryz.underlying26 hi hz0 hz1 hz2 rfl (by decide) _ _ _ rfl (HI.out.2.1.1.alloc _) ⟨wr.heap.size, 0, none⟩ 1 1 [.string t] rfl rfl (by exact cell_one_new _ _ _) (by simp [Value.oneCell']) (by unfold maxLen; omega) (by omega) (by have := HI.out.2.2.size; simp; omega) ?_)
              intro v' w2 hown2 hgrow2 _ hat2
              have ht2 := HI.out.2.1.app (by omega) hown2 hgrow2 hat2
              have hb2 : Below w8.heap.size w8 w2 := (HI.out.2.2.alloc HI.out.2.2.size _).grown hgrow2 (by have := HI.out.2.2.size; simp; omega) (fun g hg => (HI.out.2.1.1.lt g hg).1)
              have HF := Lib.hid (And.intro ht2 hb2)
              obtain ⟨va, vc, rfl, -, -⟩ := RowAt.of_own hown2
              clear hown2 hgrow2 hat2 ht2 hb2
              go_wp2
              exact ⟨⟨q + 1, fd ++ [t], by omega, by go_num, by simp, HS'.out, HF.out.1, HF.out.2⟩, by simp [intOf]; omega⟩
          · obtain rfl : q = z.length := by omega
            have HJ := Lib.hid (HI.out.1.done hkl HZ.out)
            clear hq hqz
            go_wp2_with fail
            exact ⟨⟨k + 1, fd, by omega, by go_num, rfl, HJ.out, HI.out.2.1.1, HI.out.2.2⟩, by simp [intOf]; omega⟩)
    · obtain rfl : k = l.length := by omega
      have hfl := HR.out.1.done S.out.1 S.out.2.2
      have d1 : ((found.length : Int) == (all.length : Int)) = true := by simp [hfl]
      have hbw := F.out.now
      obtain ⟨-, -, -, -, -, -, hbw⟩ := hbw
      clear hfl hkl hk
      go_wp2
      go_ret
      exact ⟨rfl, hbw⟩
end Go.Proofs.YtgaldlecnfekaaaGreatDoor
