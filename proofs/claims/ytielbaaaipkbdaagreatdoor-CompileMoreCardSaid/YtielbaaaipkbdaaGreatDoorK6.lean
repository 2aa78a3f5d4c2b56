/- Walk: machine.silent, whole. -/
import Derived.Test.YtielbaaaipkbdaaGreatDoorK5
import Derived.Laws.MakeOwn
import Derived.Deep.DeepCutAuto
import Derived.Deep.CutBlock
import Derived.Laws.EntriesVeiled
namespace Go.Proofs.YtielbaaaipkbdaaGreatDoor
open Go.RowKit Classical

theorem run_mkrow {P : Program} (t e : TypeId) (i : TypeInfo) (z : Value) (ht : P.underlying t = some (.slice e)) (hi : P.info? e = some i) (hz : i.zero = some z)
    (kl kc : IntKind) (n c : Nat) (hnc : n ≤ c) (hbytes : i.bytes * c ≤ 281474976710656) (h63 : c ≤ 9223372036854775807) (w : World) :
    (Instr.makeSlice t (.int kl (n : Int)) (.int kc (c : Int))).run P w = .ok (.slice (some ⟨w.heap.size, 0, none⟩) n c) (w.alloc (.cells (madeCells z.cells (c * i.size)) e)) := by
  have hb : (i.bytes : Int) * (c : Int) ≤ 281474976710656 := by
    have h : ((i.bytes * c : Nat) : Int) ≤ 281474976710656 := by omega
    rwa [Int.natCast_mul] at h
  have hr := run_make (P := P) w t e i z ht hi hz kl kc n c (by omega) (by omega) hb (by omega)
  simp only [Int.toNat_natCast] at hr
  exact hr
theorem madeCells_ints (n : Nat) : madeCells #[.int .i64 0] n = (nums (List.replicate n 0)).toArray := by
  apply Array.ext
  · simp [madeCells, nums]
  · intro i h1 h2
    simp [madeCells, Nat.mod_one, nums]

set_option maxRecDepth 100000 in
set_option maxHeartbeats 4000000 in
theorem silent_any (M : Mach) (hv : ValidM M) (v : Value) (w : World) (h : MachAt w w.heap.size v M) :
    Calls Tryz.prog 39 #[v] w fun e w' => e = .returned (.bool (decide (Circle M))) ∧ Below w.heap.size w w' := by
  obtain ⟨fa, fc, aa, ac, rfl, hfl, hal, hf, ha⟩ := h
  obtain ⟨i0, hi, hz0, hz1, hz2⟩ := info_parts info_int
  obtain ⟨n, hn⟩ : ∃ n : Nat, M.states = n := ⟨M.states.toNat, by have := hv.one; omega⟩
  have hn4 : n ≤ 4000 := by have := hv.most; omega
  have hmk := fun W => run_mkrow (P := Tryz.prog) 26 3 i0 (.int .i64 0) Tryz.underlying26 hi hz0 .i64 .i64 n n (Nat.le_refl _) (by rw [hz2]; omega) (by omega) W
  rw [hz1] at hmk
  have Hv := Lib.hid hv
  have Hrow := Lib.hid ha
  clear hf
  go_enter Tryz.func39, Tryz.ntmps39
  rw [hn]
  go_upto_block 1 with (fail)
  generalize hW0 : ((((w.alloc _).alloc _).alloc _).alloc _) = W0
  obtain ⟨b0, hb0⟩ : ∃ b, w.heap.size = b := ⟨_, rfl⟩
  have k0 : Blk W0 b0 #[.int .i64 n, .int .i64 M.start, .slice fa M.final.length fc, .slice aa M.arcs.length ac] 33 := by
    rw [← hW0, ← hb0]; exact (((Blk.new _ _ _).alloc _).alloc _).alloc _
  have k1 : Blk W0 (b0 + 1) (nums (List.replicate n 0)).toArray 3 := by
    rw [← hW0, ← hb0, ← madeCells_ints]
    have := ((Blk.new (w.alloc (.cells #[.int .i64 n, .int .i64 M.start, .slice fa M.final.length fc, .slice aa M.arcs.length ac] 33)) (madeCells #[.int .i64 0] n) 3).alloc (.cells #[.slice (some ⟨w.heap.size + 1, 0, none⟩) n n] 26))
    simp only [World.size_alloc] at this
    exact this.alloc _
  have k2 : Blk W0 (b0 + 2) #[.slice (some ⟨b0 + 1, 0, none⟩) n n] 26 := by
    rw [← hW0, ← hb0]
    have := (Blk.new ((w.alloc (.cells #[.int .i64 n, .int .i64 M.start, .slice fa M.final.length fc, .slice aa M.arcs.length ac] 33)).alloc (.cells (madeCells #[.int .i64 0] n) 3)) #[.slice (some ⟨w.heap.size + 1, 0, none⟩) n n] 26)
    simp only [World.size_alloc] at this
    exact this.alloc _
  have k3 : ∃ T, Blk W0 (b0 + 3) #[.func (.func 67) #[] #[.pointer (some ⟨b0 + 2, 0, none⟩), .pointer (some ⟨b0, 0, none⟩), .pointer (some ⟨b0 + 3, 0, none⟩)]] T := by
    rw [← hW0, ← hb0]
    have := fun T => Blk.new (((w.alloc (.cells #[.int .i64 n, .int .i64 M.start, .slice fa M.final.length fc, .slice aa M.arcs.length ac] 33)).alloc (.cells (madeCells #[.int .i64 0] n) 3)).alloc (.cells #[.slice (some ⟨w.heap.size + 1, 0, none⟩) n n] 26)) #[.func (.func 67) #[] #[.pointer (some ⟨w.heap.size + 2, 0, none⟩), .pointer (some ⟨w.heap.size, 0, none⟩), .pointer (some ⟨w.heap.size + 3, 0, none⟩)]] T
    simp only [World.size_alloc] at this
    exact ⟨_, this _⟩
  have hbw : Below w.heap.size w W0 := by
    rw [← hW0]; exact ((((Below.refl _ _).alloc (Nat.le_refl _) _).alloc (by simp) _).alloc (by simp; omega) _).alloc (by simp; omega) _
  have hsz : W0.heap.size = b0 + 4 := by rw [← hW0]; simp [hb0]
  have hrow0 := ha.below hbw (Nat.le_refl _)
  rw [hb0] at hrow0
  have haa : ∀ p, 0 < M.arcs.length → aa = some p → p.block < b0 := fun p hp e => by
    obtain ⟨b, off, e', hb, _⟩ := ha (by rw [flat_length]; omega)
    rw [e] at e'; cases e'; show b < b0; omega
  clear hW0 hmk
  rw [hb0]
  have HB := Lib.hid (And.intro k0 (And.intro k1 (And.intro k2 (And.intro k3 hrow0))))
  have Hb := Lib.hid (And.intro hbw hb0)
  clear k0 k1 k2 k3 hrow0 hbw ha hb0 hz0 hz1 hz2 hi
  go_loopw [12] (fun i wr => ∃ (k : Nat) (sn : List Int), i = .int .i64 k ∧ k ≤ n ∧ sn.length = n ∧ DoneOk M sn ∧ Cols sn ∧ (∀ u : Nat, sn[u]? ≠ some 1) ∧ (∀ u : Nat, u < k → sn[u]? = some 2) ∧ Blk wr (b0 + 1) (nums sn).toArray 3 ∧ Chg (fun k => k = b0 + 1) W0 wr) (fun i _ => n - (intOf i).toNat)
  case atStart =>
    refine ⟨0, List.replicate n 0, rfl, Nat.zero_le _, by simp, ⟨fun u t hu => ?_, fun u hu => ?_⟩, fun c hc => .inl (List.eq_of_mem_replicate hc), fun u hu => ?_, fun u hu => absurd hu (Nat.not_lt_zero _), HB.out.2.1, Chg.refl _ _⟩
    · have := List.eq_of_mem_replicate (List.mem_of_getElem? hu); cases this
    · have := List.eq_of_mem_replicate (List.mem_of_getElem? hu); cases this
    · have := List.eq_of_mem_replicate (List.mem_of_getElem? hu); cases this
  case round =>
    obtain ⟨k, sn, rfl, hkn, hln, hok, hcol, hno1, hall, hbs, hc⟩ := hrel
    have hbw' := Hb.out.1.trans (hc.below (B := w.heap.size) (fun i hi => by have := Hb.out.2; omega) Hb.out.1.size)
    by_cases hk : k < n
    · have xcW := (HB.out.2.2.1.chg hc (by omega)).cell 0
      have tc := hbs.cell k
      have etc : (nums sn).toArray[k]? = some (.int .i64 sn[k]) := by simp [nums, hln, hk]
      rw [etc] at tc
      obtain ⟨T, hvB⟩ := HB.out.2.2.2.1
      have vc := (hvB.chg hc (by omega)).cell 0
      simp only [List.getElem?_toArray, List.getElem?_cons_zero] at xcW vc
      obtain ⟨col, hcl⟩ : ∃ col, col = sn[k] := ⟨_, rfl⟩
      rw [← hcl] at tc
      have Hcol := Lib.hid (show sn[k]? = some col by rw [hcl]; exact List.getElem?_eq_getElem (by omega))
      clear etc hcl
      rcases hcol col (List.mem_of_getElem? Hcol.out) with rfl | rfl | rfl
      · have hsm := hc.size
        have hQ := visit_any M Hv.out (b0 + 2) b0 (b0 + 3) (b0 + 1) ⟨by omega, by omega, by omega⟩ fa fc aa ac (fun h0 p hp => by have := haa p h0 hp; omega) (sn.count 0) k sn wr (Nat.le_refl _) (by rw [hln, hn]) Hcol.out hok hcol (fun u hu => absurd hu (hno1 u)) hbs (by rw [hln]; exact HB.out.2.2.1.chg hc (by omega)) (by rw [hn]; exact HB.out.1.chg hc (by omega)) ⟨T, hvB.chg hc (by omega)⟩
          ((HB.out.2.2.2.2.chg hc (by omega) (fun h0 p hp => by have := haa p (by rw [flat_length] at h0; omega) hp; omega)).more (by omega))
        have HQ := Lib.hid hQ
        have H := Lib.hid (And.intro hok (And.intro hcol (And.intro hno1 (And.intro hall (And.intro hbs hc)))))
        clear hQ hok hcol hno1 hall hbs hc hvB
        go_wp2_with (go_at_call 67; refine HQ.out.mono ?_; rintro e w4 ⟨r, sn4, rfl, k1, k2, k3, k4, k5⟩; have hc4 := H.out.2.2.2.2.2.trans k3; have hbF := Hb.out.1.trans (hc4.below (B := w.heap.size) (fun i hi => by have := Hb.out.2; omega) Hb.out.1.size); have HR := Lib.hid (And.intro k1 (And.intro k2 (And.intro hc4 (And.intro k4 k5)))); clear k1 k2 k3 k4 k5 hc4; rcases r with _ | _)
        · have hv4 := HR.out.2.2.2.2 (by trivial)
          refine ⟨⟨k + 1, sn4, by go_num, by omega, HR.out.2.1.trans hln, hv4.ok, hv4.cols, fun u hu => H.out.2.2.1 u ((hv4.grew.opens u).1 hu), fun u hu => ?_, HR.out.1, HR.out.2.2.1⟩, by simp [intOf]; omega⟩
          rcases Nat.lt_succ_iff_lt_or_eq.1 hu with hu | rfl
          · exact hv4.grew.done u (H.out.2.2.2.1 u hu)
          · exact hv4.self
        · have hcir := Lib.hid (HR.out.2.2.2.1 (by trivial))
          go_ret
          exact ⟨ret_yes hcir.out, hbF⟩
      · exact absurd Hcol.out (hno1 k)
      · have H := Lib.hid (And.intro hok (And.intro hcol (And.intro hno1 (And.intro hall (And.intro hbs hc)))))
        clear hok hcol hno1 hall hbs hc
        go_wp2_with fail
        refine ⟨⟨k + 1, sn, by go_num, by omega, hln, H.out.1, H.out.2.1, H.out.2.2.1, fun u hu => ?_, H.out.2.2.2.2.1, H.out.2.2.2.2.2⟩, by simp [intOf]; omega⟩
        rcases Nat.lt_succ_iff_lt_or_eq.1 hu with hu | rfl
        · exact H.out.2.2.2.1 u hu
        · exact Hcol.out
    · obtain rfl : k = n := by omega
      have hncir := Lib.hid (show ¬ Circle M from no_circle hok (fun a ha => (Hv.out.arcs a ha).1) (fun u hu => hall u (by omega)))
      clear hok hcol hno1 hall hbs hc
      go_wp2_with fail
      go_ret
      exact ⟨ret_no hncir.out, hbw'⟩
end Go.Proofs.YtielbaaaipkbdaaGreatDoor
