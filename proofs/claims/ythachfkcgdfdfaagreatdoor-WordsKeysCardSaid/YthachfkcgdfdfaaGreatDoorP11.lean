/- GR -/
import Derived.Test.YthachfkcgdfdfaaGreatDoorP10
/- R1 · R2 · R3 · R4 -/
/- Walks of the rules: plain texts, formed rules, reading letters. -/
namespace Go.Proofs.YthachfkcgdfdfaaGreatDoor
open Go.RowKit Classical
open Go.Shelf

def oddP (r : Nat) : Bool := decide (r < 33) || decide (126 < r) || (r == 34)
theorem get_bang (s : ByteArray) (i : Nat) (hi : i < s.size) : s.get! i = s[i] := by
 simp [ByteArray.get!, getElem!_pos, hi]
 rfl
theorem decode_low (s : ByteArray) (i : Nat) (hi : i < s.size) (h : (s[i]).toNat < 128) : Utf8.decode s i = ((s[i]).toNat, 1) := by
 have hg : s.get! i = s[i] := get_bang s i hi
 unfold Utf8.decode
 simp only [Nat.add_zero, hg, if_pos h]
theorem decode_high (s : ByteArray) (i : Nat) (hi : i < s.size) (h : ¬ (s[i]).toNat < 128) : 128 ≤ (Utf8.decode s i).1 := by
 have hg : s.get! i = s[i] := get_bang s i hi
 unfold Utf8.decode
 simp only [Nat.add_zero, hg, if_neg h, Utf8.runeError]
 split
 ·split
  ·simpa using ‹_›
  ·decide
 ·split
  ·split
   ·rename_i hc; simp at hc; show 128 ≤ _; omega
   ·decide
  ·split
   ·split
    ·rename_i hc; simp at hc; show 128 ≤ _; omega
    ·decide
   ·decide
theorem odd_low (c : UInt8) (h : c.toNat < 128) : oddP c.toNat = !printC c := by
 unfold oddP printC
 generalize c.toNat = n at *
 rw [Bool.eq_iff_iff]
 simp only [Bool.or_eq_true, decide_eq_true_eq, beq_iff_eq, Bool.not_eq_true', Bool.and_eq_false_iff, decide_eq_false_iff_not, bne_eq_false_iff_eq]
 omega
theorem printC_high (c : UInt8) (h : ¬ c.toNat < 128) : printC c = false := by
 unfold printC; simp
 intros; omega
theorem idx_odd (s : ByteArray) : ∀ (f pos : Nat), s.size - pos ≤ f → (0 ≤ Lib.idxFuncFrom oddP true s f pos ↔ ∃ j, ∃ h : j < s.size, pos ≤ j ∧ printC s[j] = false)
 | 0, pos, hf => by
  constructor
  ·intro h; rw [Lib.idxFuncFrom] at h; exact absurd h (by decide)
  ·rintro ⟨j, h, h1, _⟩; omega
 | f + 1, pos, hf => by
  unfold Lib.idxFuncFrom
  by_cases hp : pos < s.size
  ·rw [if_pos hp]
   by_cases hlo : (s[pos]).toNat < 128
   ·rw [decode_low s pos hp hlo]
    simp only
    rw [odd_low _ hlo]
    by_cases hpr : printC s[pos] = true
    ·rw [hpr, if_neg (by simp), idx_odd s f (pos + 1) (by omega)]
     constructor
     ·rintro ⟨j, h, h1, h2⟩; exact ⟨j, h, by omega, h2⟩
     ·rintro ⟨j, h, h1, h2⟩
      refine ⟨j, h, ?_, h2⟩
      rcases Nat.lt_or_ge pos j with h3 | h3
      ·omega
      ·have : j = pos := by omega
       subst this
       rw [hpr] at h2; cases h2
    ·have hpr' : printC s[pos] = false := by simpa using hpr
     rw [hpr', if_pos (by simp)]
     exact ⟨fun _ => ⟨pos, hp, Nat.le_refl _, hpr'⟩, fun _ => by omega⟩
   ·have hh := decode_high s pos hp hlo
    rw [if_pos (by unfold oddP; simp; omega)]
    exact ⟨fun _ => ⟨pos, hp, Nat.le_refl _, printC_high _ hlo⟩, fun _ => by omega⟩
  ·rw [if_neg hp]
   constructor
   ·intro h; exact absurd h (by decide)
   ·rintro ⟨j, h, h1, _⟩; omega
theorem contains_odd (s : ByteArray) : decide (0 ≤ Lib.idxFunc oddP true s) = !printB (bl s) := by
 have h := idx_odd s s.size 0 (by omega)
 unfold Lib.idxFunc
 rw [Bool.eq_iff_iff, decide_eq_true_eq, h]
 simp only [printB, Bool.not_eq_true', List.all_eq_false]
 constructor
 ·rintro ⟨j, hj, _, hp⟩
  exact ⟨s[j], List.mem_of_getElem? (bl_get s j hj), by rw [hp]; simp⟩
 ·rintro ⟨c, hc, hp⟩
  obtain ⟨j, hj⟩ := List.getElem?_of_mem hc
  have hjl : j < s.size := by rw [← bl_length]; exact (List.getElem?_eq_some_iff.1 hj).1
  rw [bl_get s j hjl] at hj
  obtain rfl := Option.some.inj hj
  exact ⟨j, hjl, Nat.zero_le _, by simpa using hp⟩

set_option maxHeartbeats 1000000 in
theorem plain1_any (r : Nat) (w : World) :
  Calls Tryz.prog 272 #[.int .i32 (r : Int)] w fun e w' => e = .returned (.bool (oddP r)) ∧ w' = w := by
 go_enter Tryz.func272, Tryz.ntmps272
 go_wp2
 all_goals (go_ret; refine ⟨ret_bool ?_, rfl⟩; unfold oddP; rw [Bool.eq_iff_iff]; simp [*]; try omega)

set_option maxRecDepth 100000 in
set_option maxHeartbeats 1000000 in
theorem plain_any (s : ByteArray) (a b : Nat) (w : World) :
  Calls Tryz.prog 260 #[.string s, .int .i64 a, .int .i64 b] w fun e w' => e = .returned (.bool (decide (Plain11 s a b))) ∧ Below w.heap.size w w' := by
 have hC := fun w => Tryz.strings_ContainsFunc 272 #[] (enters_of Tryz.func272 (by kernel_rfl) rfl) oddP s w (fun W x _ => (plain1_any x W).mono fun e w' h => ⟨h.1, 0, by rw [h.2]; rfl⟩)
 rw [contains_odd] at hC
 have HC := Lib.hid hC
 clear hC
 go_enter Tryz.func260, Tryz.ntmps260
 by_cases h1 : a ≤ s.size
 ·by_cases h2 : s.size ≤ b
  ·have h1' : decide ((a : Int) ≤ (s.size : Int)) = true := by simpa using h1
   have h2' : decide ((s.size : Int) ≤ (b : Int)) = true := by simpa using h2
   go_wp2_with fail
   refine (HC.out _).mono ?_
   rintro e w1 ⟨rfl, hb⟩
   go_wp2_with fail
   all_goals
    go_ret
    refine ⟨ret_dec ?_, hb⟩
    simp [Plain11, h1, h2]
  ·go_wp2_with fail
   go_ret
   exact ⟨ret_no (fun h => h2 h.2.2), Below.refl _ _⟩
 ·go_wp2_with fail
  go_ret
  exact ⟨ret_no (fun h => h1 h.2.1), Below.refl _ _⟩

end Go.Proofs.YthachfkcgdfdfaaGreatDoor

/- Walk: whether rules are formed (rules.formed). -/
namespace Go.Proofs.YthachfkcgdfdfaaGreatDoor
open Go.RowKit Classical

theorem ruleV_mem {l : List Rul} {x : Rul} : ruleV x ∈ l.map ruleV ↔ x ∈ l := by
 rw [List.mem_map]
 exact ⟨fun ⟨y, hy, e⟩ => ruleV_inj e ▸ hy, fun h => ⟨x, h, rfl⟩⟩

set_option maxRecDepth 100000 in
set_option maxHeartbeats 4000000 in
theorem formed_any (R : Ruls) (v : Value) (w : World) (h : RulsAt w w.heap.size v R) :
  Calls Tryz.prog 230 #[v] w fun e w' => e = .returned (.bool (decide (Formed11 R))) ∧ Below w.heap.size w w' := by
 have hR := h
 obtain ⟨la, lc, rfl, hs1, hs2, hln, hlr, hl⟩ := h
 have hmm := @run_makeMap Tryz.prog
 have hln2 := hln
 unfold maxLen at hln
 go_enter Tryz.func230, Tryz.ntmps230
 have hbx0 : Box (w.alloc (.cells #[.string R.src, .string R.dst, .slice la R.list.length lc] 106)) w.heap.size [.string R.src, .string R.dst, .slice la R.list.length lc] := Box.new _ _ _
 go_wp2_with fail
 obtain ⟨W1, hW1⟩ : ∃ W1 : World, W1 = (w.alloc (.cells #[.string R.src, .string R.dst, .slice la R.list.length lc] 106)) := ⟨_, rfl⟩
 rw [← hW1] at hbx0
 have hb1 : Below w.heap.size w W1 := by rw [hW1]; exact (Below.refl _ _).alloc (Nat.le_refl _) _
 have hs1' : W1.heap.size = w.heap.size + 1 := by rw [hW1]; simp
 have hM0 : SetIs (W1.alloc (.map #[] 0)) W1.heap.size OkRule (([] : List Rul).map ruleV) := SetIs.made W1 OkRule
 have hB0 : Below W1.heap.size W1 (W1.alloc (.map #[] 0)) := (Below.refl _ _).alloc (Nat.le_refl _) _
 obtain ⟨W2, hW2⟩ : ∃ W2 : World, W2 = W1.alloc (.map #[] 0) := ⟨_, rfl⟩
 rw [← hW2] at hM0 hB0
 have hW2' : (w.alloc (.cells #[.string R.src, .string R.dst, .slice la R.list.length lc] 106)).alloc (.map #[] 0) = W2 := by rw [hW2, hW1]
 rw [hW2']
 rw [hs1'] at hM0 hB0
 have hl1 := hl.below hb1 (Nat.le_refl _)
 have HM0 := Lib.hid hM0
 have Hbx := Lib.hid (fun (wr : World) (hbr : Below (w.heap.size + 1) W1 wr) => (hbx0.below hbr (by omega)).c3)
 have Hcr := Lib.hid (fun (wr : World) (hbr : Below (w.heap.size + 1) W1 wr) (k : Nat) (hk : k < R.list.length) => (show ∃ b off, la = some ⟨b, off, none⟩ ∧ wr.cell? ⟨b, off + k * 4, none⟩ = some (.string R.list[k].src) ∧ wr.cell? ⟨b, off + k * 4 + 1, none⟩ = some (.string R.list[k].dst) ∧
   wr.cell? ⟨b, off + k * 4 + 2, none⟩ = some (.string R.list[k].nxt) ∧ wr.cell? ⟨b, off + k * 4 + 3, none⟩ = some (.bool R.list[k].fin) from by
  obtain ⟨b, off, e, hb, hc⟩ := hl1.ruls (by omega)
  have := hc k hk
  exact ⟨b, off, e, (hbr.cell (p := ⟨b, off + k * 4, none⟩) (by show b < _; omega)).trans this.1, (hbr.cell (p := ⟨b, off + k * 4 + 1, none⟩) (by show b < _; omega)).trans this.2.1, (hbr.cell (p := ⟨b, off + k * 4 + 2, none⟩) (by show b < _; omega)).trans this.2.2.1, (hbr.cell (p := ⟨b, off + k * 4 + 3, none⟩) (by show b < _; omega)).trans this.2.2.2⟩))
 clear hW2 hW2' hM0 hl1 hl hbx0 hmm
 go_loopw [10] (fun i wr => ∃ k : Nat, k ≤ R.list.length ∧ i = .int .i64 k ∧ (∀ (a : Nat) r, a < k → R.list[a]? = some r → r.ok) ∧ (R.list.take k).Nodup ∧ SetIs wr (w.heap.size + 1) OkRule ((R.list.take k).map ruleV) ∧ Below (w.heap.size + 1) W1 wr) (fun i _ => R.list.length - (intOf i).toNat)
 case atStart => exact ⟨0, Nat.zero_le _, rfl, by simp, by simp, HM0.out, hB0⟩
 case round =>
  obtain ⟨k, hk, rfl, hok, hnd, hS, hbr⟩ := hrel
  have Hok := Lib.hid hok
  have Hnd := Lib.hid hnd
  have HS := Lib.hid hS
  have hwr := hb1.trans (hbr.mono (by omega))
  have hswr := hbr.size
  clear hok hnd hS
  by_cases hkl : k < R.list.length
  ·obtain ⟨b, off, rfl, k0, k1, k2, k3⟩ := Hcr.out wr hbr k hkl
   obtain ⟨x, hx⟩ : ∃ x, R.list[k] = x := ⟨_, rfl⟩
   have hxm : x ∈ R.list := by rw [← hx]; exact List.getElem_mem hkl
   rw [hx] at k0 k1 k2 k3
   have Hx := Lib.hid hx
   clear hx
   obtain ⟨W3, hW3⟩ : ∃ W3 : World, W3 = wr.alloc (.cells #[.string x.src, .string x.dst, .string x.nxt, .bool x.fin] 103) := ⟨_, rfl⟩
   have hxb : Blk W3 wr.heap.size #[.string x.src, .string x.dst, .string x.nxt, .bool x.fin] 103 := by rw [hW3]; exact Blk.new _ _ _
   have hb3 : Below wr.heap.size wr W3 := by rw [hW3]; exact (Below.refl _ _).alloc (Nat.le_refl _) _
   have hs3 : W3.heap.size = wr.heap.size + 1 := by rw [hW3]; simp
   have HK := Lib.hid (fun (wx : World) (hbx : Below W3.heap.size W3 wx) => (show (wx.cell? ⟨wr.heap.size, 0, none⟩ = some (.string x.src) ∧ wx.cell? ⟨wr.heap.size, 1, none⟩ = some (.string x.dst) ∧ wx.cell? ⟨wr.heap.size, 2, none⟩ = some (.string x.nxt) ∧ wx.cell? ⟨wr.heap.size, 3, none⟩ = some (.bool x.fin)) ∧ SetIs wx (w.heap.size + 1) OkRule ((R.list.take k).map ruleV) ∧ Below (w.heap.size + 1) W1 wx from by
    have hB := hxb.below hbx (by omega)
    have hbb := hb3.trans (hbx.mono (by omega))
    exact ⟨⟨hB.cell 0, hB.cell 1, hB.cell 2, hB.cell 3⟩, MapIs.below HS.out hbb (MapIs.lt HS.out), hbr.trans (hbb.mono (by have := hbr.size; omega))⟩))
   have Hbad := Lib.hid (fun (hn : ¬ x.ok) (hf : Formed11 R) => hn (hf.2.2.2.2.1 x hxm))
   clear hxb
   by_cases p1 : Plain11 x.src 1 9
   ·have q1 := plain_any x.src 1 9 W3
    rw [hW3, decide_eq_true p1] at q1
    have HP1 := Lib.hid p1
    clear p1
    go_wp2_with fail
    refine q1.mono ?_
    rintro e w3 ⟨rfl, hbx⟩
    rw [← hW3] at hbx
    clear q1 k0 k1 k2 k3
    obtain ⟨⟨m0, m1, m2, m3⟩, hS3, hbW3⟩ := HK.out w3 hbx
    by_cases p2 : Plain11 x.dst 0 9
    ·have q2 := plain_any x.dst 0 9 w3
     rw [decide_eq_true p2] at q2
     have HP2 := Lib.hid p2
     clear p2
     go_wp2_with fail
     refine q2.mono ?_
     rintro e w4 ⟨rfl, hbx4⟩
     have hbx4' := hbx.trans (hbx4.mono hbx.size)
     clear q2 m0 m1 m2 m3 hS3 hbW3 hbx4 hbx
     obtain ⟨⟨m0, m1, m2, m3⟩, hS3, hbW3⟩ := HK.out w4 hbx4'
     by_cases p3 : Plain11 x.nxt 0 30
     ·have q3 := plain_any x.nxt 0 30 w4
      rw [decide_eq_true p3] at q3
      have HP3 := Lib.hid p3
      clear p3
      go_wp2_with fail
      refine q3.mono ?_
      rintro e w5 ⟨rfl, hbx5⟩
      have hbx5' := hbx4'.trans (hbx5.mono hbx4'.size)
      clear q3 m0 m1 m2 m3 hS3 hbW3 hbx4' hbx5
      obtain ⟨⟨m0, m1, m2, m3⟩, hS5, hbW5⟩ := HK.out w5 hbx5'
      have hbw5 := hb1.trans (hbW5.mono (by omega))
      by_cases p4 : x.fin = true ∧ bl x.nxt ≠ []
      ·obtain ⟨p4a, p4b⟩ := p4
       have e1 := empty_no p4b
       have HB := Lib.hid (Hbad.out (fun h => h.2.2.2 ⟨p4a, p4b⟩))
       rw [p4a] at m3
       clear p4a p4b
       go_wp2_with fail
       go_ret
       exact ⟨ret_no HB.out, hbw5⟩
      ·have Hxok := Lib.hid (show x.ok from ⟨HP1.out, HP2.out, HP3.out, p4⟩)
       have hlk := SetIs.look hS5 keyRule Tryz.underlying313 (zero_bool w5) (key := ruleV x) ⟨x, rfl⟩
       by_cases hin : x ∈ R.list.take k
       ·rw [decide_eq_true (ruleV_mem.2 hin)] at hlk
        unfold ruleV at hlk
        have HB := Lib.hid (show ¬ Formed11 R from fun hf => by
         have hnd := hf.2.2.2.2.2
         obtain ⟨j, hj, hje⟩ := List.getElem_of_mem hin
         rw [List.length_take] at hj
         rw [List.getElem_take, ← Hx.out] at hje
         have := (List.getElem_inj hnd).1 hje
         omega)
        clear hin
        by_cases hfin : x.fin = true
        ·have hnx : bl x.nxt = [] := Classical.byContradiction fun hne => p4 ⟨hfin, hne⟩
         have e1 := nil_yes hnx
         have e2 := (empty_iff _).2 hnx
         rw [hfin] at m3 hlk
         clear p4 hfin hnx
         go_wp2_with fail
         go_ret
         exact ⟨ret_no HB.out, hbw5⟩
        ·have hfin' : x.fin = false := by simpa using hfin
         rw [hfin'] at m3 hlk
         clear p4 hfin hfin'
         go_wp2_with fail
         go_ret
         exact ⟨ret_no HB.out, hbw5⟩
       ·rw [decide_eq_false (fun h => hin (ruleV_mem.1 h))] at hlk
        obtain ⟨w6, hrun, hS6, hg6, hs6⟩ := SetIs.put hS5 keyRule Tryz.underlying313 (key := ruleV x) ⟨x, rfl⟩
        rw [addV, if_neg (fun h => hin (ruleV_mem.1 h))] at hS6
        have HS6 := Lib.hid hS6
        have hbr6 := hbW5.grown hg6 (by have := hbW5.size; omega) (fun j hj => by cases hj; exact Nat.le_refl _)
        have Hin := Lib.hid hin
        unfold ruleV at hlk hrun
        have Hend := Lib.hid (show (∀ (a : Nat) r, a < k + 1 → R.list[a]? = some r → r.ok) ∧ (R.list.take (k + 1)).Nodup ∧ SetIs w6 (w.heap.size + 1) OkRule ((R.list.take (k + 1)).map ruleV) from by
         have htk : R.list.take (k + 1) = R.list.take k ++ [x] := by rw [List.take_succ_eq_append_getElem hkl, Hx.out]
         refine ⟨fun a r ha hr => ?_, ?_, ?_⟩
         ·rcases Nat.lt_succ_iff_lt_or_eq.1 ha with h | rfl
          ·exact Hok.out a r h hr
          ·rw [List.getElem?_eq_getElem hkl, Hx.out] at hr; obtain rfl := Option.some.inj hr; exact Hxok.out
         ·rw [htk]
          refine List.nodup_append.2 ⟨Hnd.out, by simp, fun y hy z hz e => ?_⟩
          have : z = x := by simpa using hz
          subst this; subst e
          exact Hin.out hy
         ·rw [htk, List.map_append]; exact HS6.out)
        clear hin hS6 hg6 hs6 hS5
        by_cases hfin : x.fin = true
        ·have hnx : bl x.nxt = [] := Classical.byContradiction fun hne => p4 ⟨hfin, hne⟩
         have e1 := nil_yes hnx
         have e2 := (empty_iff _).2 hnx
         rw [hfin] at m3 hlk hrun
         clear p4 hfin hnx
         go_wp2_with fail
         exact ⟨⟨k + 1, by omega, by go_num, Hend.out.1, Hend.out.2.1, Hend.out.2.2, hbr6⟩, by simp [intOf]; omega⟩
        ·have hfin' : x.fin = false := by simpa using hfin
         rw [hfin'] at m3 hlk hrun
         clear p4 hfin hfin'
         go_wp2_with fail
         exact ⟨⟨k + 1, by omega, by go_num, Hend.out.1, Hend.out.2.1, Hend.out.2.2, hbr6⟩, by simp [intOf]; omega⟩
     ·have q3 := plain_any x.nxt 0 30 w4
      rw [decide_eq_false p3] at q3
      have HB := Lib.hid (Hbad.out (fun h => p3 h.2.2.1))
      clear p3
      go_wp2_with fail
      refine q3.mono ?_
      rintro e w5 ⟨rfl, hbx5⟩
      have hbx5' := hbx4'.trans (hbx5.mono hbx4'.size)
      have hbw5 := hb1.trans ((HK.out w5 hbx5').2.2.mono (by omega))
      clear q3 m0 m1 m2 m3 hS3 hbW3
      go_wp2_with fail
      go_ret
      exact ⟨ret_no HB.out, hbw5⟩
    ·have q2 := plain_any x.dst 0 9 w3
     rw [decide_eq_false p2] at q2
     have HB := Lib.hid (Hbad.out (fun h => p2 h.2.1))
     clear p2
     go_wp2_with fail
     refine q2.mono ?_
     rintro e w4 ⟨rfl, hbx4⟩
     have hbx4' := hbx.trans (hbx4.mono hbx.size)
     have hbw4 := hb1.trans ((HK.out w4 hbx4').2.2.mono (by omega))
     clear q2 m0 m1 m2 m3 hS3 hbW3
     go_wp2_with fail
     go_ret
     exact ⟨ret_no HB.out, hbw4⟩
   ·have q1 := plain_any x.src 1 9 W3
    rw [hW3, decide_eq_false p1] at q1
    have HB := Lib.hid (Hbad.out (fun h => p1 h.1))
    clear p1
    go_wp2_with fail
    refine q1.mono ?_
    rintro e w3 ⟨rfl, hbx⟩
    rw [← hW3] at hbx
    have hbw3 := hb1.trans ((HK.out w3 hbx).2.2.mono (by omega))
    clear q1 k0 k1 k2 k3
    go_wp2_with fail
    go_ret
    exact ⟨ret_no HB.out, hbw3⟩
  ·obtain rfl : k = R.list.length := by omega
   obtain ⟨r0, r1, r2⟩ := Hbx.out wr hbr
   have Hall := Lib.hid (show (∀ r ∈ R.list, r.ok) ∧ R.list.Nodup from ⟨fun r hr => by
    obtain ⟨i, hi⟩ := List.getElem?_of_mem hr
    exact Hok.out i r (List.getElem?_eq_some_iff.1 hi).1 hi, by have := Hnd.out; rwa [List.take_length] at this⟩)
   have q1 := isName_any R.src hs1 wr
   by_cases n1 : nameB (bl R.src) = true
   ·rw [n1] at q1
    have HN1 := Lib.hid n1
    clear n1
    go_wp2_with fail
    refine q1.mono ?_
    rintro e w3 ⟨rfl, hb3⟩
    have hbr3 := hbr.trans (hb3.mono (by omega))
    clear r0 r1 r2 q1
    obtain ⟨r0, r1, r2⟩ := Hbx.out w3 hbr3
    have q2 := isName_any R.dst hs2 w3
    by_cases n2 : nameB (bl R.dst) = true
    ·rw [n2] at q2
     have HN2 := Lib.hid n2
     clear n2
     go_wp2_with fail
     refine q2.mono ?_
     rintro e w4 ⟨rfl, hb4⟩
     have hbr4 := hbr3.trans (hb4.mono (by have := hbr3.size; omega))
     have hbw4 := hb1.trans (hbr4.mono (by omega))
     clear r0 r1 r2 q2
     obtain ⟨r0, r1, r2⟩ := Hbx.out w4 hbr4
     go_wp2_with fail
     all_goals
      go_ret
      refine ⟨ret_dec ?_, hbw4⟩
      have hF : Formed11 R ↔ 1 ≤ R.list.length ∧ R.list.length ≤ 80 := by
       unfold Formed11
       constructor
       ·intro h; exact ⟨h.2.2.1, h.2.2.2.1⟩
       ·intro h; exact ⟨HN1.out, HN2.out, h.1, h.2, Hall.out.1, Hall.out.2⟩
      rw [hF]
      simp
      try omega
    ·have n2' : nameB (bl R.dst) = false := by simpa using n2
     have HB := Lib.hid (show ¬ Formed11 R from fun h => n2 h.2.1)
     rw [n2'] at q2
     clear n2 n2'
     go_wp2_with fail
     refine q2.mono ?_
     rintro e w4 ⟨rfl, hb4⟩
     have hbr4 := hbr3.trans (hb4.mono (by have := hbr3.size; omega))
     have hbw4 := hb1.trans (hbr4.mono (by omega))
     clear r0 r1 r2 q2
     go_wp2_with fail
     go_ret
     exact ⟨ret_no HB.out, hbw4⟩
   ·have n1' : nameB (bl R.src) = false := by simpa using n1
    have HB := Lib.hid (show ¬ Formed11 R from fun h => n1 h.1)
    rw [n1'] at q1
    clear n1 n1'
    go_wp2_with fail
    refine q1.mono ?_
    rintro e w3 ⟨rfl, hb3⟩
    have hbr3 := hbr.trans (hb3.mono (by omega))
    have hbw3 := hb1.trans (hbr3.mono (by omega))
    clear r0 r1 r2 q1
    go_wp2_with fail
    go_ret
    exact ⟨ret_no HB.out, hbw3⟩

end Go.Proofs.YthachfkcgdfdfaaGreatDoor

/- Walks: the letters of a rule's texts (rules.read). -/
namespace Go.Proofs.YthachfkcgdfdfaaGreatDoor
open Go.RowKit Classical

set_option maxRecDepth 100000 in
set_option maxHeartbeats 400000 in
theorem rread_any (A : Alph) (hv : Valid10 A) (s : ByteArray) (most : Nat) (hs : s.size ≤ maxLen) (v : Value) (w : World) (h : AlphAt w w.heap.size v A) :
  Calls Tryz.prog 231 #[v, .string s, .int .i64 most] w fun e w' =>
   ∃ u, e = .returned (.tuple #[u, .bool (decide (LettersOk A.bls (bl s) most))]) ∧
    w'.ownsRow w.heap.size 3 1 u (lettersL A.bls (bl s)).length (nums (lettersL A.bls (bl s))) ∧ Below w.heap.size w w' := by
 have hA := h
 obtain ⟨la, lc, sa, sc, rfl, hn, hl1, hs1, hls, hl, hsm⟩ := h
 go_enter Tryz.func231, Tryz.ntmps231
 by_cases he : bl s = []
 ·have h1 := nil_yes he
  go_wp2
  go_ret2
  refine ⟨_, rfl_pair (decide_eq_true (.inl he)).symm, ?_, (Below.refl _ _).alloc (Nat.le_refl _) _⟩
  rw [lettersL, if_pos he]; exact World.ownsRow_nil _ _ _ _
 ·have h1 := empty_no he
  have He := Lib.hid he
  clear he
  go_wp2_with fail
  have hrd : readA A s = readL A.bls (bl s) := by rw [readA, if_pos hv]
  have hr := Read_any A _ s hs (w.alloc (.cells #[.string A.name, .slice la A.letters.length lc, .slice sa A.small.length sc] 89)) ((hA.below ((Below.refl _ _).alloc (Nat.le_refl _) _) (Nat.le_refl _)).more (by simp))
  rw [hrd] at hr
  refine hr.mono ?_
  clear hr hrd
  rintro e w1 ⟨u, rfl, hown, hb1⟩
  obtain ⟨ua, uc, rfl, _⟩ := RowAt.of_own hown
  have Ho := Lib.hid hown
  clear hown
  by_cases herr : (readL A.bls (bl s)).err = 0
  ·have hq : ((readL A.bls (bl s)).err == 0) = true := by simp [herr]
   have Herr := Lib.hid herr
   clear herr
   go_wp2
   go_ret2
   refine ⟨_, rfl_pair ?_, ?_, ((Below.refl _ _).alloc (Nat.le_refl _) _).trans (hb1.mono (by simp))⟩
   ·rw [Bool.eq_iff_iff, decide_eq_true_iff, decide_eq_true_iff, LettersOk]
    simp [He.out, Herr.out]
   ·rw [lettersL, if_neg He.out]; exact own_base Ho.out (by simp)
  ·have hq : ((readL A.bls (bl s)).err == 0) = false := by simp [herr]
   go_wp2
   go_ret2
   refine ⟨_, rfl_pair (decide_eq_false (fun h => h.elim He.out (fun h => herr h.1))).symm, ?_, ((Below.refl _ _).alloc (Nat.le_refl _) _).trans (hb1.mono (by simp))⟩
   rw [lettersL, if_neg He.out]; exact own_base Ho.out (by simp)

end Go.Proofs.YthachfkcgdfdfaaGreatDoor

/- Walks: rules with their letters (rules.open), and whether rules are valid (rules.Valid). -/
namespace Go.Proofs.YthachfkcgdfdfaaGreatDoor
open Go.RowKit Classical

theorem info_orule : (Tryz.prog.info? 291).map (fun i => (i.zero, i.size, i.bytes)) = some (some (.agg #[.string ⟨#[]⟩, .string ⟨#[]⟩, .string ⟨#[]⟩, .bool false, .slice none 0 0, .slice none 0 0]), 6, 104) := by kernel_rfl
/-- The cells of opened rules. -/
def oneO (x : Rul) (p : Value × Value) : List Value := x.cells ++ [p.1, p.2]
def flatO (l : List Rul) (F : List (Value × Value)) : List Value := (l.zip F).flatMap fun q => oneO q.1 q.2
/-- What the letters of the rules' texts own. -/
def OLetters (R : Ruls) (A : Alph) (base : Nat) (F : List (Value × Value)) (w : World) : Prop :=
 ∀ (i : Nat) x p, R.list[i]? = some x → F[i]? = some p → w.ownsRow base 3 1 p.1 (lettersL A.bls (bl x.src)).length (nums (lettersL A.bls (bl x.src))) ∧ w.ownsRow base 3 1 p.2 (lettersL A.bls (bl x.nxt)).length (nums (lettersL A.bls (bl x.nxt)))
theorem OLetters.imp {R : Ruls} {A : Alph} {base : Nat} {F : List (Value × Value)} {w w' : World} (h : OLetters R A base F w) (hk : ∀ v n xs, w.ownsRow base 3 1 v n xs → w'.ownsRow base 3 1 v n xs) : OLetters R A base F w' :=
 fun i x p hx hp => ⟨hk _ _ _ (h i x p hx hp).1, hk _ _ _ (h i x p hx hp).2⟩
theorem flatO_snoc (l : List Rul) (F : List (Value × Value)) (k : Nat) (x : Rul) (p : Value × Value) (hF : F.length = k) (hx : l[k]? = some x) : flatO l (F ++ [p]) = flatO l F ++ oneO x p := by
 unfold flatO
 obtain ⟨hk, he⟩ := List.getElem?_eq_some_iff.1 hx
 have hl : l = l.take k ++ l[k] :: l.drop (k + 1) := by rw [← List.drop_eq_getElem_cons hk, List.take_append_drop]
 have h1 : (l.take k).length = F.length := by rw [List.length_take]; omega
 have e1 : l.zip (F ++ [p]) = (l.take k).zip F ++ [(x, p)] := by
  conv => lhs; rw [hl]
  rw [List.zip_append h1, he]; simp
 have e2 : l.zip F = (l.take k).zip F := by
  conv => lhs; rw [hl, show F = F ++ [] from by simp]
  rw [List.zip_append h1]; simp
 rw [e1, e2, List.flatMap_append]
 simp

def OpenPost (R : Ruls) (A B : Alph) (w : World) (e : Ending) (w' : World) : Prop :=
 ∃ v, e = .returned (.tuple #[v, .bool (decide (Valid11 R A B))]) ∧ Below w.heap.size w w' ∧
  (Valid11 R A B → ∃ F, F.length = R.list.length ∧ w'.ownsRow w.heap.size 291 6 v R.list.length (flatO R.list F) ∧ OLetters R A w.heap.size F w')
theorem open_no {R : Ruls} {A B : Alph} {w w' : World} (h : ¬ Valid11 R A B) (hb : Below w.heap.size w w') : OpenPost R A B w (.returned (.tuple #[.slice none 0 0, .bool false])) w' :=
 ⟨_, by rw [decide_eq_false h], hb, fun hv => absurd hv h⟩

theorem open_yes {R : Ruls} {A B : Alph} {w w' : World} {v : Value} (h : Valid11 R A B) (hb : Below w.heap.size w w') (hF : ∃ F, F.length = R.list.length ∧ w'.ownsRow w.heap.size 291 6 v R.list.length (flatO R.list F) ∧ OLetters R A w.heap.size F w') :
  OpenPost R A B w (.returned (.tuple #[v, .bool true])) w' :=
 ⟨_, by rw [decide_eq_true h], hb, fun _ => hF⟩

set_option maxRecDepth 100000 in
set_option maxHeartbeats 4000000 in
theorem open_any (R : Ruls) (A B : Alph) (v va vb : Value) (w : World) (h : RulsAt w w.heap.size v R) (ha : AlphAt w w.heap.size va A) (hb : AlphAt w w.heap.size vb B) :
  Calls Tryz.prog 198 #[v, va, vb] w (OpenPost R A B w) := by
 have hR := h
 have hA := ha
 have hB := hb
 obtain ⟨la, lc, rfl, hs1, hs2, hln, hlr, hl⟩ := h
 obtain ⟨fa, fc, ga, gc, rfl, hn, hl1, hs3, hls, hfl, hfs⟩ := ha
 obtain ⟨fa2, fc2, ga2, gc2, rfl, hn2, hl2, hs4, hls2, hfl2, hfs2⟩ := hb
 obtain ⟨i0, hi, hz0, hz1, hz2⟩ := info_parts info_orule
 have hln2 := hln
 unfold maxLen at hln
 go_enter Tryz.func198, Tryz.ntmps198
 go_wp2_with fail
 generalize hW0 : (((w.alloc _).alloc _).alloc _) = W0
 have hw0 : Below w.heap.size w W0 := by rw [← hW0]; exact (((Below.refl _ _).alloc (Nat.le_refl _) _).alloc (by simp) _).alloc (by simp; omega) _
 have hsz : W0.heap.size = w.heap.size + 3 := by rw [← hW0]; simp
 have hbr : Box W0 w.heap.size [Value.string R.src, .string R.dst, .slice la R.list.length lc] := by
  rw [← hW0]; exact ((Box.new _ _ _).alloc (by simp) _).alloc (by simp; omega) _
 have hba : Box W0 (w.heap.size + 1) [Value.string A.name, .slice fa A.letters.length fc, .slice ga A.small.length gc] := by
  rw [← hW0]; have := (Box.new (w.alloc (.cells #[Value.string R.src, .string R.dst, .slice la R.list.length lc] 106)) [Value.string A.name, .slice fa A.letters.length fc, .slice ga A.small.length gc] 89)
  simp at this; exact this.alloc (by simp) _
 have hbb : Box W0 (w.heap.size + 2) [Value.string B.name, .slice fa2 B.letters.length fc2, .slice ga2 B.small.length gc2] := by
  rw [← hW0]; have := (Box.new ((w.alloc (.cells #[Value.string R.src, .string R.dst, .slice la R.list.length lc] 106)).alloc (.cells #[Value.string A.name, .slice fa A.letters.length fc, .slice ga A.small.length gc] 89)) [Value.string B.name, .slice fa2 B.letters.length fc2, .slice ga2 B.small.length gc2] 89)
  simpa using this
 clear hW0
 have Hk := Lib.hid (fun wr (hbw : Below W0.heap.size W0 wr) => And.intro (hbr.below hbw (by omega)).c3 (And.intro (hba.below hbw (by omega)).c3 (hbb.below hbw (by omega)).c3))
 clear hbr hba hbb
 refine (formed_any R _ _ ((hR.below hw0 (Nat.le_refl _)).more hw0.size)).mono ?_
 rintro e w1 ⟨rfl, hb1⟩
 have hb1' := hw0.trans (hb1.mono hw0.size)
 by_cases hf : Formed11 R
 ·rw [decide_eq_true hf]
  obtain ⟨⟨r0, r1, r2⟩, ⟨a0, a1, a2⟩, b0, b1, b2⟩ := Hk.out w1 hb1
  go_wp2_with fail
  refine (AValid_any A _ _ ((hA.below hb1' (Nat.le_refl _)).more hb1'.size)).mono ?_
  rintro e w2 ⟨rfl, hb2⟩
  have hb2W := hb1.trans (hb2.mono hb1.size)
  have hb2' := hw0.trans (hb2W.mono hw0.size)
  clear r0 r1 r2 a0 a1 a2 b0 b1 b2
  by_cases hva : Valid10 A
  ·rw [decide_eq_true hva]
   obtain ⟨⟨r0, r1, r2⟩, ⟨a0, a1, a2⟩, b0, b1, b2⟩ := Hk.out w2 hb2W
   go_wp2_with fail
   refine (AValid_any B _ _ ((hB.below hb2' (Nat.le_refl _)).more hb2'.size)).mono ?_
   rintro e w3 ⟨rfl, hb3⟩
   have hb3W := hb2W.trans (hb3.mono hb2W.size)
   have hb3' := hw0.trans (hb3W.mono hw0.size)
   clear r0 r1 r2 a0 a1 a2 b0 b1 b2
   by_cases hvb : Valid10 B
   ·rw [decide_eq_true hvb]
    obtain ⟨⟨r0, r1, r2⟩, ⟨a0, a1, a2⟩, b0, b1, b2⟩ := Hk.out w3 hb3W
    by_cases he1 : R.src = A.name
    ·by_cases he2 : R.dst = B.name
     ·have d1 : (R.src.toList == A.name.toList) = true := by rw [he1]; simp
      have d2 : (R.dst.toList == B.name.toList) = true := by rw [he2]; simp
      have He := Lib.hid (And.intro he1 he2)
      have HV := Lib.hid (And.intro hf (And.intro hva hvb))
      have hn1 := hf.2.2.1
      have hn80 := hf.2.2.2.1
      obtain ⟨b, off, rfl, hb, hc⟩ := hl.ruls (by omega)
      have Hcr := Lib.hid (fun wr (hbw : Below w.heap.size w wr) i (hi : i < R.list.length) =>
       (And.intro ((hbw.cell (p := ⟨b, off + i * 4, none⟩) hb).trans (hc i hi).1) (And.intro ((hbw.cell (p := ⟨b, off + i * 4 + 1, none⟩) hb).trans (hc i hi).2.1)
        (And.intro ((hbw.cell (p := ⟨b, off + i * 4 + 2, none⟩) hb).trans (hc i hi).2.2.1) ((hbw.cell (p := ⟨b, off + i * 4 + 3, none⟩) hb).trans (hc i hi).2.2.2)))))
      clear he1 he2 hf hva hvb hc
      go_wp2_with fail
      clear r0 r1 r2 a0 a1 a2 b0 b1 b2 d1 d2
      go_loopw [8, 47] (fun out i wr => ∃ (k : Nat) (F : List (Value × Value)), k ≤ R.list.length ∧ i = .int .i64 k ∧ F.length = k ∧ (∀ (a : Nat) r, a < k → R.list[a]? = some r → r.lettered A B) ∧
       wr.ownsRow W0.heap.size 291 6 out k (flatO R.list F) ∧ OLetters R A W0.heap.size F wr ∧ Below W0.heap.size W0 wr) (fun _ i _ => R.list.length - (intOf i).toNat)
      case atStart => exact ⟨0, [], Nat.zero_le _, rfl, rfl, by simp, by simpa [flatO] using World.ownsRow_nil _ _ _ _, fun i x p hx hp => by simp at hp, hb3W⟩
      case round =>
       obtain ⟨k, F, hk, rfl, hFl, hlt, hown, hol, hbw⟩ := hrel
       have Hlt := Lib.hid hlt
       have Hown := Lib.hid hown
       have Hol := Lib.hid hol
       have HFl := Lib.hid hFl
       clear hlt hown hol hFl
       have hwr := hw0.trans (hbw.mono hw0.size)
       have hswr := hbw.size
       obtain ⟨⟨r0, r1, r2⟩, ⟨a0, a1, a2⟩, b0, b1, b2⟩ := Hk.out wr hbw
       by_cases hkl : k < R.list.length
       ·obtain ⟨k0, k1, k2, k3⟩ := Hcr.out wr hwr k hkl
        obtain ⟨q1, q2, q3⟩ := hlr _ (List.getElem_mem hkl)
        obtain ⟨x, hx⟩ : ∃ x, R.list[k] = x := ⟨_, rfl⟩
        rw [hx] at k0 k1 k2 k3 q1 q2 q3
        have hxm : x ∈ R.list := by rw [← hx]; exact List.getElem_mem hkl
        have Hx := Lib.hid (show R.list[k]? = some x from by rw [List.getElem?_eq_getElem hkl, hx])
        clear hx
        obtain ⟨W3, hW3⟩ : ∃ W3 : World, W3 = wr.alloc (.cells #[.string x.src, .string x.dst, .string x.nxt, .bool x.fin] 103) := ⟨_, rfl⟩
        have hxb : Blk W3 wr.heap.size #[.string x.src, .string x.dst, .string x.nxt, .bool x.fin] 103 := by rw [hW3]; exact Blk.new _ _ _
        have hb3 : Below wr.heap.size wr W3 := by rw [hW3]; exact (Below.refl _ _).alloc (Nat.le_refl _) _
        have hs3 : W3.heap.size = wr.heap.size + 1 := by rw [hW3]; simp
        have HK := Lib.hid (fun (wx : World) (hbx : Below W3.heap.size W3 wx) => (show (wx.cell? ⟨wr.heap.size, 0, none⟩ = some (.string x.src) ∧ wx.cell? ⟨wr.heap.size, 1, none⟩ = some (.string x.dst) ∧ wx.cell? ⟨wr.heap.size, 2, none⟩ = some (.string x.nxt) ∧ wx.cell? ⟨wr.heap.size, 3, none⟩ = some (.bool x.fin)) ∧ Below W0.heap.size W0 wx ∧ Below wr.heap.size wr wx from by
         have hB := hxb.below hbx (by omega)
         have hbb := hb3.trans (hbx.mono (by omega))
         exact ⟨⟨hB.cell 0, hB.cell 1, hB.cell 2, hB.cell 3⟩, hbw.trans (hbb.mono hbw.size), hbb⟩))
        clear hxb
        have hbw3 : Below W0.heap.size W0 W3 := hbw.trans (hb3.mono hbw.size)
        have hbw3w := hw0.trans (hbw3.mono hw0.size)
        obtain ⟨g0, g1, g2⟩ := (Hk.out W3 hbw3).2.1
        have cq1 := rread_any A HV.out.2.1 x.src 3 q1 (.agg #[.string A.name, .slice fa A.letters.length fc, .slice ga A.small.length gc]) W3 ((hA.below hbw3w (Nat.le_refl _)).more hbw3w.size)
        rw [hW3] at g0 g1 g2 cq1
        go_wp2_with fail
        refine cq1.mono ?_
        rintro e w4 ⟨f, rfl, hof, hb4⟩
        rw [← hW3] at hof hb4
        have Hof := Lib.hid hof
        clear cq1 g0 g1 g2 r0 r1 r2 a0 a1 a2 b0 b1 b2 k0 k1 k2 k3 hof
        obtain ⟨⟨m0, m1, m2, m3⟩, hb4W, hb4r⟩ := HK.out w4 hb4
        obtain ⟨⟨r0, r1, r2⟩, ⟨a0, a1, a2⟩, b0, b1, b2⟩ := Hk.out w4 hb4W
        have hb4w := hw0.trans (hb4W.mono hw0.size)
        have cq2 := rread_any A HV.out.2.1 x.nxt 10 q3 (.agg #[.string A.name, .slice fa A.letters.length fc, .slice ga A.small.length gc]) w4 ((hA.below hb4w (Nat.le_refl _)).more hb4w.size)
        go_wp2_with fail
        refine cq2.mono ?_
        rintro e w5 ⟨n, rfl, hon, hb5⟩
        have hb45 := hb4.trans (hb5.mono hb4.size)
        have Hon := Lib.hid hon
        have Hof5 := Lib.hid (own_below Hof.out hb5)
        clear cq2 r0 r1 r2 a0 a1 a2 b0 b1 b2 m0 m1 m2 m3 hon
        obtain ⟨⟨m0, m1, m2, m3⟩, hb5W, hb5r⟩ := HK.out w5 hb45
        obtain ⟨⟨r0, r1, r2⟩, ⟨a0, a1, a2⟩, b0, b1, b2⟩ := Hk.out w5 hb5W
        have hb5w := hw0.trans (hb5W.mono hw0.size)
        have cq3 := rread_any B HV.out.2.2 x.dst 3 q2 (.agg #[.string B.name, .slice fa2 B.letters.length fc2, .slice ga2 B.small.length gc2]) w5 ((hB.below hb5w (Nat.le_refl _)).more hb5w.size)
        go_wp2_with fail
        refine cq3.mono ?_
        rintro e w6 ⟨t, rfl, _, hb6⟩
        have hb46 := hb45.trans (hb6.mono hb45.size)
        clear cq3 r0 r1 r2 a0 a1 a2 b0 b1 b2 m0 m1 m2 m3
        obtain ⟨⟨m0, m1, m2, m3⟩, hb6W, hb6r⟩ := HK.out w6 hb46
        have hb6w := hw0.trans (hb6W.mono hw0.size)
        by_cases p : x.lettered A B
        ·obtain ⟨p1, p2, p3⟩ := p
         have P := Lib.hid (show x.lettered A B from ⟨p1, p2, p3⟩)
         rw [decide_eq_true p1, decide_eq_true p2, decide_eq_true p3]
         clear p1 p2 p3
         have hof6 := own_base (own_below Hof5.out hb6) (base' := W0.heap.size) (by omega)
         have hon6 := own_base (own_below Hon.out hb6) (base' := W0.heap.size) (by have := hb4W.size; omega)
         have hown6 := own_below Hown.out hb6r
         have Hol6 := Lib.hid (Hol.out.imp (w' := w6) (fun v n xs h => own_below h hb6r))
         obtain ⟨fa', fc', rfl, _⟩ := RowAt.of_own hof6
         obtain ⟨na', nc', rfl, _⟩ := RowAt.of_own hon6
         have Hof6 := Lib.hid hof6
         have Hon6 := Lib.hid hon6
         have hs6 := hb6W.size
         obtain ⟨fl, hfl⟩ : ∃ fl, (lettersL A.bls (bl x.src)).length = fl := ⟨_, rfl⟩
         obtain ⟨nl, hnl⟩ : ∃ nl, (lettersL A.bls (bl x.nxt)).length = nl := ⟨_, rfl⟩
         rw [hfl, hnl]
         have Hfl := Lib.hid (And.intro hfl hnl)
         clear hof6 hon6 hfl hnl
         go_wp2_with (at_builtin; refine wpList_append_own_at _ rfl _ _ 262 rfl W0.heap.size 291 i0 _ 6 104 Tryz.underlying262 hi hz0 hz1 hz2 rfl (by decide) _ _ _ rfl (hown6.alloc _) ⟨w6.heap.size, 0, none⟩ 1 1 [.string x.src, .string x.dst, .string x.nxt, .bool x.fin, .slice fa' fl fc', .slice na' nl nc'] rfl rfl ?c1 ?c2 ?c3 ?c4 ?c5 ?_)
         case c1 =>
          exact cells_new w6 [.string x.src, .string x.dst, .string x.nxt, .bool x.fin, .slice fa' fl fc', .slice na' nl nc'] 291
         case c2 => simp [Value.oneCell']
         case c3 => unfold maxLen; omega
         case c4 => omega
         case c5 => simp; omega
         intro v' w7 hown7 hgrow7 _ hloc7
         have hal := (hown6.alloc (.cells #[.string x.src, .string x.dst, .string x.nxt, .bool x.fin, .slice fa' fl fc', .slice na' nl nc'] 291))
         have hkeep : ∀ v n xs, w6.ownsRow W0.heap.size 3 1 v n xs → w7.ownsRow W0.heap.size 3 1 v n xs := fun v n xs h => own_kept_other (h.alloc _) hal (by decide) hgrow7
         have hb7 : Below W0.heap.size W0 w7 := (hb6W.alloc hs6 _).grown hgrow7 (by simp; omega) (fun j hj => (hown6.lt j hj).1)
         have HE := Lib.hid (show w7.ownsRow W0.heap.size 291 6 v' (k + 1) (flatO R.list (F ++ [(.slice fa' fl fc', .slice na' nl nc')])) ∧ OLetters R A W0.heap.size (F ++ [(.slice fa' fl fc', .slice na' nl nc')]) w7 from by
          refine ⟨?_, fun i y p hy hp => ?_⟩
          ·rw [flatO_snoc R.list F k x _ HFl.out Hx.out, hsz]; exact hown7
          ·rcases Nat.lt_or_ge i F.length with h | h
           ·rw [List.getElem?_append_left h] at hp
            exact ⟨hkeep _ _ _ (Hol6.out i y p hy hp).1, hkeep _ _ _ (Hol6.out i y p hy hp).2⟩
           ·rw [List.getElem?_append_right h] at hp
            have hi0 : i = k := by
             have := (List.getElem?_eq_some_iff.1 hp).1
             have hF := HFl.out
             simp at this; omega
            subst hi0
            rw [Hx.out] at hy
            obtain rfl := Option.some.inj hy
            rw [HFl.out] at hp
            simp at hp
            subst hp
            rw [← Hfl.out.1, ← Hfl.out.2]
            exact ⟨hkeep _ _ _ Hof6.out, hkeep _ _ _ Hon6.out⟩)
         obtain ⟨ov, oc, rfl⟩ := own_succ hown7
         clear hown7 hgrow7 hloc7 hal hkeep
         go_wp2_with fail
         refine ⟨⟨k + 1, F ++ [(.slice fa' fl fc', .slice na' nl nc')], by omega, by go_num, by simp [HFl.out], fun a r ha hr => ?_, HE.out.1, HE.out.2, hb7⟩, by simp [intOf]; omega⟩
         rcases Nat.lt_succ_iff_lt_or_eq.1 ha with h | rfl
         ·exact Hlt.out a r h hr
         ·rw [Hx.out] at hr; obtain rfl := Option.some.inj hr; exact P.out
        ·have HB := Lib.hid (show ¬ Valid11 R A B from fun hv => p (hv.2.2.2.2.2 x hxm))
         by_cases p1 : LettersOk A.bls (bl x.src) 3
         ·by_cases p3 : LettersOk A.bls (bl x.nxt) 10
          ·have p2 : ¬ LettersOk B.bls (bl x.dst) 3 := fun h => p ⟨p1, h, p3⟩
           rw [decide_eq_true p1, decide_eq_true p3, decide_eq_false p2]
           clear p p1 p2 p3
           go_wp2_with fail
           go_ret2
           exact open_no HB.out hb6w
          ·rw [decide_eq_true p1, decide_eq_false p3]
           clear p p1 p3
           go_wp2_with fail
           go_ret2
           exact open_no HB.out hb6w
         ·rw [decide_eq_false p1]
          clear p p1
          go_wp2_with fail
          go_ret2
          exact open_no HB.out hb6w
       ·obtain rfl : k = R.list.length := by omega
        have HV2 := Lib.hid (show Valid11 R A B from ⟨HV.out.1, HV.out.2.1, HV.out.2.2, He.out.1, He.out.2, fun r hr => by
         obtain ⟨i, hi⟩ := List.getElem?_of_mem hr
         exact Hlt.out i r (List.getElem?_eq_some_iff.1 hi).1 hi⟩)
        go_wp2_with fail
        go_ret2
        exact open_yes HV2.out hwr ⟨F, HFl.out, own_base Hown.out hw0.size, fun i x p hx hp => ⟨own_base (Hol.out i x p hx hp).1 hw0.size, own_base (Hol.out i x p hx hp).2 hw0.size⟩⟩
     ·have d1 : (R.src.toList == A.name.toList) = true := by rw [he1]; simp
      have d2 : (!R.dst.toList == B.name.toList) = true := bytes_ne.2 he2
      have d3 : (R.dst.toList == B.name.toList) = false := by simpa using d2
      have HB := Lib.hid (show ¬ Valid11 R A B from fun hv => he2 hv.2.2.2.2.1)
      clear he1 he2 d2
      go_wp2_with fail
      go_ret2
      exact open_no HB.out hb3'
    ·have d2 : (!R.src.toList == A.name.toList) = true := bytes_ne.2 he1
     have d3 : (R.src.toList == A.name.toList) = false := by simpa using d2
     have HB := Lib.hid (show ¬ Valid11 R A B from fun hv => he1 hv.2.2.2.1)
     clear he1 d2
     go_wp2_with fail
     go_ret2
     exact open_no HB.out hb3'
   ·rw [decide_eq_false hvb]
    have HB := Lib.hid (show ¬ Valid11 R A B from fun hv => hvb hv.2.2.1)
    clear hvb
    go_wp2_with fail
    go_ret2
    exact open_no HB.out hb3'
  ·rw [decide_eq_false hva]
   have HB := Lib.hid (show ¬ Valid11 R A B from fun hv => hva hv.2.1)
   clear hva
   go_wp2_with fail
   go_ret2
   exact open_no HB.out hb2'
 ·rw [decide_eq_false hf]
  have HB := Lib.hid (show ¬ Valid11 R A B from fun hv => hf hv.1)
  clear hf
  go_wp2_with fail
  go_ret2
  exact open_no HB.out hb1'

set_option maxRecDepth 100000 in
set_option maxHeartbeats 1000000 in
theorem RValid_any (R : Ruls) (A B : Alph) (v va vb : Value) (w : World) (h : RulsAt w w.heap.size v R) (ha : AlphAt w w.heap.size va A) (hb : AlphAt w w.heap.size vb B) :
  Calls Tryz.prog 136 #[v, va, vb] w fun e w' => e = .returned (.bool (decide (Valid11 R A B))) ∧ Below w.heap.size w w' := by
 have hR := h
 have hA := ha
 have hB := hb
 obtain ⟨la, lc, rfl, hs1, hs2, hln, hlr, hl⟩ := h
 obtain ⟨fa, fc, ga, gc, rfl, hn, hl1, hs3, hls, hfl, hfs⟩ := ha
 obtain ⟨fa2, fc2, ga2, gc2, rfl, hn2, hl2, hs4, hls2, hfl2, hfs2⟩ := hb
 go_enter Tryz.func136, Tryz.ntmps136
 go_wp2_with fail
 generalize hW0 : (((w.alloc _).alloc _).alloc _) = W0
 have hw0 : Below w.heap.size w W0 := by rw [← hW0]; exact (((Below.refl _ _).alloc (Nat.le_refl _) _).alloc (by simp) _).alloc (by simp; omega) _
 clear hW0
 refine (open_any R A B _ _ _ _ ((hR.below hw0 (Nat.le_refl _)).more hw0.size) ((hA.below hw0 (Nat.le_refl _)).more hw0.size) ((hB.below hw0 (Nat.le_refl _)).more hw0.size)).mono ?_
 rintro e w1 ⟨u, rfl, hb1, _⟩
 go_wp2_with fail
 go_ret
 exact ⟨rfl, hw0.trans (hb1.mono hw0.size)⟩

end Go.Proofs.YthachfkcgdfdfaaGreatDoor
