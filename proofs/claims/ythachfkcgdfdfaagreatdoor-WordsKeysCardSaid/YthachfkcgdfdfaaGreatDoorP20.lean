/- GQ · H1 · GN · N8 · SC · D8 -/
import Derived.Test.YthachfkcgdfdfaaGreatDoorP19
/- P5 · P6 -/
/- The law's sample: its rules and alphabets are valid; its machine. No program in sight. -/
namespace Go.Proofs.YthachfkcgdfdfaaGreatDoor
open Go Classical

end Go.Proofs.YthachfkcgdfdfaaGreatDoor

/- The law's sample: what its machine answers for two texts. No program in sight. -/
namespace Go.Proofs.YthachfkcgdfdfaaGreatDoor
open Go Classical

def k0 : List Plc := [⟨0, bs []⟩]
def k1 : List Plc := [⟨1, bs [98]⟩]
def k2 : List Plc := [⟨4, bs [98, 97]⟩, ⟨3, bs [98, 97, 98]⟩]
def k3 : List Plc := [⟨2, bs [98, 97, 98]⟩]
end Go.Proofs.YthachfkcgdfdfaaGreatDoor
/- Walk: the head of the law CompileMatchesReference. -/
namespace Go.Proofs.YthachfkcgdfdfaaGreatDoor
open Go.RowKit Classical

end Go.Proofs.YthachfkcgdfdfaaGreatDoor
/- N1 · N2 · N3 -/
/- Walks: few and has, of the laws on compiled rules. -/
namespace Go.Proofs.YthachfkcgdfdfaaGreatDoor
open Go.RowKit Classical

end Go.Proofs.YthachfkcgdfdfaaGreatDoor

/- Plain words: the machine of all rules but the last one leads where that of all rules leads. No program in sight. -/
namespace Go.Proofs.YthachfkcgdfdfaaGreatDoor
open Go Classical

end Go.Proofs.YthachfkcgdfdfaaGreatDoor

/- Walk: the law CompileMore. -/
namespace Go.Proofs.YthachfkcgdfdfaaGreatDoor
open Go.RowKit Classical

end Go.Proofs.YthachfkcgdfdfaaGreatDoor
/- Plain words: how long the results of compiled machines are. No program in sight. -/
namespace Go.Proofs.YthachfkcgdfdfaaGreatDoor
open Go Classical

end Go.Proofs.YthachfkcgdfdfaaGreatDoor
/- Plain words: the ways of a compiled machine are its rules, one after the other. No program in sight. -/
namespace Go.Proofs.YthachfkcgdfdfaaGreatDoor
open Go Classical

section
variable {L : List (List UInt8)} {all : List RulL}
end
end Go.Proofs.YthachfkcgdfdfaaGreatDoor
/- Walk: compose.Copy. -/
namespace Go.Proofs.YthachfkcgdfdfaaGreatDoor
open Go.RowKit Classical

theorem OutAt.states {w : World} {n0 bO : Nat} {st s0 : Int} {fl : List Int} {al : List Arc} {fv av : Value} (h : OutAt w n0 bO st s0 fl al fv av) (hn : n0 ≤ bO) (st' : Int) :
  OutAt (w.setCell ⟨bO, 0, none⟩ (.int .i64 st')) n0 bO st' s0 fl al fv av ∧ Below n0 w (w.setCell ⟨bO, 0, none⟩ (.int .i64 st')) :=
 ⟨⟨by have := h.blk.set_ 0 (.int .i64 st'); simpa using this, own_setCell h.fin (p := ⟨bO, 0, none⟩) (h.blk.own_ne h.fin (by decide)) _, own_setCell h.arc (p := ⟨bO, 0, none⟩) (h.blk.own_ne h.arc (by decide)) _⟩,
 (Chg.setCell (S := fun k => k = bO) (p := ⟨bO, 0, none⟩) w (.inl rfl) _).below (fun k hk => by omega) (by have := h.blk.lt; omega)⟩

/-- What compose.Copy does. -/
def CopyPost (A : Alph) (w : World) (e : Ending) (w' : World) : Prop :=
 ∃ v C err, e = .returned (.tuple #[v, .int .i64 err]) ∧ MachAt w' w'.heap.size v C ∧ Below w.heap.size w w' ∧ CopyOut A C err

set_option maxRecDepth 100000 in
set_option maxHeartbeats 4000000 in
theorem Copy_any (A : Alph) (v : Value) (w : World) (hA : AlphAt w w.heap.size v A) :
  Calls Tryz.prog 97 #[v] w (CopyPost A w) := by
 have hA0 := hA
 obtain ⟨la, lc, sa, sc, rfl, hn, hl1, hs1, hls, hl, hsm⟩ := hA
 obtain ⟨W0, hW0⟩ : ∃ W0 : World, W0 = (w.alloc (.cells #[.string A.name, .slice la A.letters.length lc, .slice sa A.small.length sc] 89)).alloc (.cells #[.int .i64 0, .int .i64 0, .slice none 0 0, .slice none 0 0] 96) := ⟨_, rfl⟩
 obtain ⟨b0, hb0⟩ : ∃ b, w.heap.size = b := ⟨_, rfl⟩
 have hw0 : Below b0 w W0 := by rw [hW0, ← hb0]; exact ((Below.refl _ _).alloc (Nat.le_refl _) _).alloc (by simp) _
 have hsz0 : W0.heap.size = b0 + 2 := by rw [hW0, ← hb0]; simp
 have kA : Blk W0 b0 #[.string A.name, .slice la A.letters.length lc, .slice sa A.small.length sc] 89 := by rw [hW0, ← hb0]; exact (Blk.new _ _ _).alloc _
 have kR : Blk W0 (b0 + 1) #[.int .i64 0, .int .i64 0, .slice none 0 0, .slice none 0 0] 96 := by
  rw [hW0, ← hb0]; have := Blk.new (w.alloc (.cells #[.string A.name, .slice la A.letters.length lc, .slice sa A.small.length sc] 89)) #[.int .i64 0, .int .i64 0, .slice none 0 0, .slice none 0 0] 96; simpa using this
 have HM := Lib.hid (fun (wr : World) (hbw : Below (b0 + 2) W0 wr) => And.intro (kA.below hbw (by omega)) (kR.below hbw (by omega)))
 have HA := Lib.hid (fun (wr : World) (hbw : Below (b0 + 2) W0 wr) => (show AlphAt wr wr.heap.size (.agg #[.string A.name, .slice la A.letters.length lc, .slice sa A.small.length sc]) A ∧ RowAt wr wr.heap.size la (strs A.letters) from by
  have h1 : Below w.heap.size w wr := by rw [hb0]; exact hw0.trans (hbw.mono (by omega))
  exact ⟨(hA0.below h1 (Nat.le_refl _)).more h1.size, (hl.below h1 (Nat.le_refl _)).more h1.size⟩))
 have HW := Lib.hid (And.intro hW0 (And.intro hw0 (And.intro hsz0 hb0)))
 clear hW0 hw0 hsz0 kA kR hA0 hl hsm hls
 unfold maxLen at hl1 hs1 hn
 go_enter Tryz.func97, Tryz.ntmps97
 go_upto_region 1 with (fail)
 clear hb0
 have hW := HW.out.1
 rw [← hW]
 clear hW
 obtain ⟨bR, hbR⟩ : ∃ b, b = b0 + 1 := ⟨_, rfl⟩
 rw [← hbR]
 have HM := Lib.hid (fun (wr : World) (hbw : Below (b0 + 2) W0 wr) => (show Blk wr b0 #[.string A.name, .slice la A.letters.length lc, .slice sa A.small.length sc] 89 ∧ Blk wr bR #[.int .i64 0, .int .i64 0, .slice none 0 0, .slice none 0 0] 96 from by rw [hbR]; exact HM.out wr hbw))
 have hbl : b0 < bR ∧ bR < b0 + 2 := by omega
 clear hbR
 obtain ⟨hmA, -⟩ := HM.out W0 (Below.refl _ _)
 have m0 : W0.cell? ⟨b0, 0, none⟩ = some (.string A.name) := hmA.cell 0
 have m1 : W0.cell? ⟨b0, 1, none⟩ = some (.slice la A.letters.length lc) := hmA.cell 1
 have m2 : W0.cell? ⟨b0, 2, none⟩ = some (.slice sa A.small.length sc) := hmA.cell 2
 clear hmA
 go_wp2_with fail
 refine (AValid_any A _ W0 (HA.out W0 (Below.refl _ _)).1).mono ?_
 clear m0 m1 m2
 rintro e w1 ⟨rfl, hb1⟩
 rw [HW.out.2.2.1] at hb1
 obtain ⟨hmA, hmR⟩ := HM.out w1 hb1
 have hz1 : b0 + 2 ≤ w1.heap.size := by have := hb1.size; have := HW.out.2.2.1; omega
 by_cases hv : Valid10 A
 case neg =>
  rw [decide_eq_false hv]
  have z0 : w1.cell? ⟨bR, 0, none⟩ = some (.int .i64 0) := hmR.cell 0
  have z1 : w1.cell? ⟨bR, 1, none⟩ = some (.int .i64 0) := hmR.cell 1
  have z2 : w1.cell? ⟨bR, 2, none⟩ = some (.slice none 0 0) := hmR.cell 2
  have z3 : w1.cell? ⟨bR, 3, none⟩ = some (.slice none 0 0) := hmR.cell 3
  have fz : ∀ j, w1.frozen? ⟨bR, j, none⟩ = false := fun j => hmR.frozen j
  have hbF : Below b0 w w1 := HW.out.2.1.trans (hb1.mono (by omega))
  have hbs := hbF.trans ((fill_chg w1 bR (.int .i64 0) (.int .i64 0) (.slice none 0 0) (.slice none 0 0)).below (B := b0) (fun k hk => by omega) (by omega))
  rw [← HW.out.2.2.2] at hbs
  have Hbs := Lib.hid hbs
  have Hno := Lib.hid hv
  clear hmA hmR hbF hbs hv
  go_wp2_with fail
  refine bodyPost_ret (v := .tuple #[.agg #[.int .i64 0, .int .i64 0, .slice none 0 0, .slice none 0 0], .int .i64 1]) (by simp [results, Tryz.results97, go_sem, z0, z1, z2, z3]) rfl ?_
  exact ⟨_, zeroM, 1, rfl, zero_mach _ _, Hbs.out, .inl ⟨Hno.out, rfl, rfl⟩⟩
 rw [decide_eq_true hv]
 have HV := Lib.hid hv
 have m1 : w1.cell? ⟨b0, 1, none⟩ = some (.slice la A.letters.length lc) := hmA.cell 1
 have Hb1 := Lib.hid hb1
 clear hmA hmR hv hb1
 go_upto_region 4 with (fail)
 generalize hW3 : ((w1.alloc _).alloc _) = W3
 obtain ⟨n0, hn0⟩ : ∃ b, w1.heap.size = b := ⟨_, rfl⟩
 have kF : Blk W3 n0 #[.int .i64 1] 3 := by rw [← hW3, ← hn0]; exact (Blk.new _ _ _).alloc _
 have kO : Blk W3 (n0 + 1) #[.int .i64 2, .int .i64 0, .slice (some ⟨n0, 0, none⟩) 1 1, .slice none 0 0] 96 := by
  rw [← hW3, ← hn0]; have := Blk.new (w1.alloc (.cells #[.int .i64 1] 3)) #[.int .i64 2, .int .i64 0, .slice (some ⟨w1.heap.size, 0, none⟩) 1 1, .slice none 0 0] 96; simpa using this
 have hb3 : Below n0 w1 W3 := by rw [← hW3, ← hn0]; exact ((Below.refl _ _).alloc (Nat.le_refl _) _).alloc (by simp) _
 have hO3 : OutAt W3 n0 (n0 + 1) 2 0 [1] [] (.slice (some ⟨n0, 0, none⟩) 1 1) (.slice none 0 0) :=
  ⟨kO, ⟨rfl, .inr ⟨n0, 1, _, rfl, Nat.le_refl _, kF, Nat.le_refl _, by unfold maxLen; omega, rfl, rfl⟩⟩, World.ownsRow_nil _ _ _ _⟩
 rw [hn0] at hz1 ⊢
 have m1' : W3.cell? ⟨b0, 1, none⟩ = some (.slice la A.letters.length lc) := (hb3.cell (p := ⟨b0, 1, none⟩) (by show b0 < n0; omega)).trans m1
 obtain ⟨bO, hbO⟩ : ∃ b, b = n0 + 1 := ⟨_, rfl⟩
 rw [← hbO] at hO3 ⊢
 have hnO : n0 < bO ∧ bO ≤ n0 + 1 := by omega
 have H3 := Lib.hid (And.intro hO3 (And.intro hb3 hn0))
 clear hW3 kF kO hb3 hO3 hn0 m1 hbO
 go_wp2_with fail
 have hlen : A.bls.length = A.letters.length := by unfold Alph.bls; rw [List.length_map]
 have h64 : A.letters.length ≤ 64 := HV.out.1.2.2.1
 have hL3 : ∀ l ∈ A.bls, 1 ≤ l.length ∧ l.length ≤ 3 := (told_of HV.out).len
 have HL := Lib.hid (And.intro hlen hL3)
 clear hlen hL3 m1'
 go_loopw [21] (fun s21 wr => ∃ (k : Nat) (av : Value), k ≤ A.letters.length ∧ s21 = .int .i64 k ∧ OutAt wr n0 bO ((cpS A.bls k : Nat) : Int) 0 [1] (cpA A.bls k) (.slice (some ⟨n0, 0, none⟩) 1 1) av ∧ Below n0 w1 wr) (fun s21 _ => A.letters.length - (intOf s21).toNat)
 case atStart => exact ⟨0, _, Nat.zero_le _, rfl, H3.out.1, H3.out.2.1⟩
 case round =>
  obtain ⟨k, av, hk, rfl, hO, hb⟩ := hrel
  by_cases hkl : k < A.letters.length
  ·have hrow := (HA.out wr (Hb1.out.trans (hb.mono hz1))).2
   obtain ⟨lb, lo, rfl, -, hyc⟩ := hrow.strs (by omega)
   have x0 := hyc k hkl
   have hbk : A.bls[k]'(by rw [HL.out.1]; exact hkl) = bl A.letters[k] := by simp [Alph.bls]
   have hmem : A.bls[k]'(by rw [HL.out.1]; exact hkl) ∈ A.bls := List.getElem_mem _
   have hsu := cpS_succ (LS := A.bls) (k := k) (by rw [HL.out.1]; exact hkl)
   have hau := cpA_succ (LS := A.bls) (k := k) (by rw [HL.out.1]; exact hkl)
   have hsz := HL.out.2 _ hmem
   rw [hbk] at hsu hau hsz
   obtain ⟨s, hs⟩ : ∃ s, A.letters[k] = s := ⟨_, rfl⟩
   rw [hs] at x0 hsu hau hsz
   have hbs : (bl s).length = s.size := by unfold bl; simp
   have hbb : cpS A.bls k ≤ 130 := by
    have h1 := copyStates_le (A.bls.take k) 2 (fun l hl => (HL.out.2 l (List.mem_of_mem_take hl)).2)
    have h2 : (A.bls.take k).length ≤ 64 := by rw [List.length_take, HL.out.1]; omega
    unfold cpS
    omega
   have hLl : (cpA A.bls k).length ≤ 384 := by
    have := cpA_len (fun l hl => (HL.out.2 l hl).2) k (by rw [HL.out.1]; omega)
    omega
   obtain ⟨b, hbd⟩ : ∃ b, cpS A.bls k = b := ⟨_, rfl⟩
   obtain ⟨L, hLd⟩ : ∃ L, cpA A.bls k = L := ⟨_, rfl⟩
   rw [hbd] at hO hsu hau hbb
   rw [hLd] at hO hau hLl
   rw [hbs] at hsz hsu hau
   have HK := Lib.hid (And.intro hsu (And.intro hau hbs))
   have HR := Lib.hid (And.intro hO hb)
   clear hrow hyc hbk hmem hsu hau hs hbd hLd hO hb hbs
   obtain ⟨wo, rfl⟩ : ∃ wo : World, wo = wr := ⟨_, rfl⟩
   go_wp2_with fail
   have hk2d : decide ((k : Int) < (A.letters.length : Int)) = true := decide_eq_true (by omega)
   try rw [hk2d]
   clear hk2d x0
   go_loopw [8, 27] (fun s8 s27 wx => ∃ (j : Nat) (av' : Value) (z : Int), j ≤ s.size ∧ s27 = .int .i64 j ∧ s8 = .int .i64 z ∧ (j < s.size → z = frmL b j) ∧ OutAt wx n0 bO ((b + min j (s.size - 1) : Nat) : Int) 0 [1] (L ++ cpyL (bl s) b j) (.slice (some ⟨n0, 0, none⟩) 1 1) av' ∧ Below n0 w1 wx) (fun _ s27 _ => s.size - (intOf s27).toNat)
   case atStart => exact ⟨0, av, 0, Nat.zero_le _, rfl, rfl, fun _ => rfl, by simpa [cpyL] using HR.out.1, HR.out.2⟩
   case round =>
    obtain ⟨j, av', z, hjn, rfl, rfl, hz, hO, hb⟩ := hrel
    by_cases hjl : j < s.size
    ·have o0 : wr.cell? ⟨bO, 0, none⟩ = some (.int .i64 ((b + min j (s.size - 1) : Nat) : Int)) := hO.blk.cell 0
     have of0 := hO.blk.frozen 0
     obtain rfl := hz hjl
     have hby : byteL (bl s) j = ((s[j].toNat : Nat) : Int) := by unfold byteL; rw [bl_get s j hjl]
     have hcl := cpyL_len (bl s) b j
     obtain ⟨L2, hL2⟩ : ∃ L2, L ++ cpyL (bl s) b j = L2 := ⟨_, rfl⟩
     have hl2 : L2.length ≤ 400 := by rw [← hL2, List.length_append]; omega
     have hsl : L ++ cpyL (bl s) b (j + 1) = L2 ++ cpyOne (bl s) b j := by rw [cpyL_succ, ← List.append_assoc, hL2]
     rw [hL2] at hO
     clear hL2 hcl hz
     by_cases hla : j + 1 < s.size
     ·have hst : ((b + min (j + 1) (s.size - 1) : Nat) : Int) = ((b : Int) + (j : Int) + 1) := by omega
      have hlt : letTo (bl s) b j = ((b : Int) + (j : Int)) := by rw [letTo_mid (by rw [HK.out.2.2]; exact hla)]; omega
      have hnz : j + 1 < s.size → ((b : Int) + (j : Int)) = frmL b (j + 1) := fun h => by rw [← hlt]; exact (frmL_succ (by rw [HK.out.2.2]; exact h)).symm
      have hc1 : j ≠ 0 → L ++ cpyL (bl s) b (j + 1) = L2 ++ [⟨frmL b j, (s[j].toNat : Nat), (s[j].toNat : Nat), ((b : Int) + (j : Int))⟩] := fun h => by
       rw [hsl]; unfold cpyOne; rw [if_neg h, hby, hlt]
      have hc0 : j = 0 → L ++ cpyL (bl s) b (j + 1) = (L2 ++ [⟨frmL b j, (s[j].toNat : Nat), (s[j].toNat : Nat), ((b : Int) + (j : Int))⟩]) ++ [⟨1, (s[j].toNat : Nat), (s[j].toNat : Nat), ((b : Int) + (j : Int))⟩] := fun h => by
       have h1 : byteL (bl s) 0 = ((s[j].toNat : Nat) : Int) := by rw [← hby, h]
       have h2 : letTo (bl s) b 0 = ((b : Int) + (j : Int)) := by rw [← hlt, h]
       rw [hsl]; unfold cpyOne; rw [if_pos h, hby, hlt, h1, h2]; simp
      have HC := Lib.hid (And.intro hst (And.intro hnz (And.intro hc1 hc0)))
      have e1 : IntKind.i64.wrap (((b + j : Nat) : Int) + 1) = ((b + (j + 1) : Nat) : Int) := by rw [IntWalk.i64_in _ (by omega)]; omega
      have hmin : min j (s.size - 1) = j := by omega
      rw [hmin] at o0 hO
      have hOs := hO.states (by omega) ((b : Int) + (j : Int) + 1)
      have HO := Lib.hid (And.intro hOs.1 (hb.trans hOs.2))
      clear hOs hmin
      clear hst hlt hnz hc1 hc0 hO hb hby hsl
      go_wp2_with fail
      refine (lead_any bO n0 _ 0 [1] L2 _ av' (frmL b j) ((b : Int) + (j : Int)) s[j] _ (by omega) (by omega) HO.out.1).mono ?_
      clear o0 of0
      rintro e w5 ⟨rfl, av5, hO5, hb5, -⟩
      have H5 := Lib.hid (And.intro hO5 (HO.out.2.trans hb5))
      clear hO5 hb5
      by_cases hj0 : j = 0
      ·have d1 : ((j : Int) == 0) = true := by simp [hj0]
       have Hj := Lib.hid hj0
       clear hj0
       go_wp2_with fail
       refine (lead_any bO n0 _ 0 [1] _ _ av5 1 ((b : Int) + (j : Int)) s[j] _ (by omega) (by rw [List.length_append]; simp; omega) H5.out.1).mono ?_
       rintro e w6 ⟨rfl, av6, hO6, hb6, -⟩
       have H6 := Lib.hid (And.intro hO6 (H5.out.2.trans hb6))
       clear hO6 hb6
       go_wp2_with fail
       exact ⟨⟨j + 1, av6, _, by omega, by go_num, rfl, HC.out.2.1, by rw [HC.out.1, HC.out.2.2.2 Hj.out]; exact H6.out.1, H6.out.2⟩, by simp [intOf]; omega⟩
      ·have d1 : ((j : Int) == 0) = false := by simp; omega
       have Hj := Lib.hid hj0
       go_wp2_with fail
       exact ⟨⟨j + 1, av5, _, by omega, by go_num, rfl, HC.out.2.1, by rw [HC.out.1, HC.out.2.2.1 Hj.out]; exact H5.out.1, H5.out.2⟩, by simp [intOf]; omega⟩
     ·have hst : ((b + min (j + 1) (s.size - 1) : Nat) : Int) = ((b + min j (s.size - 1) : Nat) : Int) := by omega
      have hlt : letTo (bl s) b j = 1 := by exact letTo_last (by rw [HK.out.2.2]; omega)
      have hnz : j + 1 < s.size → 1 = frmL b (j + 1) := fun h => by rw [← hlt]; exact (frmL_succ (by rw [HK.out.2.2]; exact h)).symm
      have hc1 : j ≠ 0 → L ++ cpyL (bl s) b (j + 1) = L2 ++ [⟨frmL b j, (s[j].toNat : Nat), (s[j].toNat : Nat), 1⟩] := fun h => by
       rw [hsl]; unfold cpyOne; rw [if_neg h, hby, hlt]
      have hc0 : j = 0 → L ++ cpyL (bl s) b (j + 1) = (L2 ++ [⟨frmL b j, (s[j].toNat : Nat), (s[j].toNat : Nat), 1⟩]) ++ [⟨1, (s[j].toNat : Nat), (s[j].toNat : Nat), 1⟩] := fun h => by
       have h1 : byteL (bl s) 0 = ((s[j].toNat : Nat) : Int) := by rw [← hby, h]
       have h2 : letTo (bl s) b 0 = 1 := by rw [← hlt, h]
       rw [hsl]; unfold cpyOne; rw [if_pos h, hby, hlt, h1, h2]; simp
      have HC := Lib.hid (And.intro hst (And.intro hnz (And.intro hc1 hc0)))
      have HO := Lib.hid (And.intro hO hb)
      clear hst hlt hnz hc1 hc0 hO hb hby hsl
      go_wp2_with fail
      refine (lead_any bO n0 _ 0 [1] L2 _ av' (frmL b j) 1 s[j] _ (by omega) (by omega) HO.out.1).mono ?_
      clear o0 of0
      rintro e w5 ⟨rfl, av5, hO5, hb5, -⟩
      have H5 := Lib.hid (And.intro hO5 (HO.out.2.trans hb5))
      clear hO5 hb5
      by_cases hj0 : j = 0
      ·have d1 : ((j : Int) == 0) = true := by simp [hj0]
       have Hj := Lib.hid hj0
       clear hj0
       go_wp2_with fail
       refine (lead_any bO n0 _ 0 [1] _ _ av5 1 1 s[j] _ (by omega) (by rw [List.length_append]; simp; omega) H5.out.1).mono ?_
       rintro e w6 ⟨rfl, av6, hO6, hb6, -⟩
       have H6 := Lib.hid (And.intro hO6 (H5.out.2.trans hb6))
       clear hO6 hb6
       go_wp2_with fail
       exact ⟨⟨j + 1, av6, _, by omega, by go_num, rfl, HC.out.2.1, by rw [HC.out.1, HC.out.2.2.2 Hj.out]; exact H6.out.1, H6.out.2⟩, by simp [intOf]; omega⟩
      ·have d1 : ((j : Int) == 0) = false := by simp; omega
       have Hj := Lib.hid hj0
       go_wp2_with fail
       exact ⟨⟨j + 1, av5, _, by omega, by go_num, rfl, HC.out.2.1, by rw [HC.out.1, HC.out.2.2.1 Hj.out]; exact H5.out.1, H5.out.2⟩, by simp [intOf]; omega⟩
    ·obtain rfl : j = s.size := by omega
     have hst : b + min s.size (s.size - 1) = b + s.size - 1 := by omega
     rw [hst] at hO
     have HZ := Lib.hid (And.intro hO hb)
     clear hO hb hst hz
     go_wp2_with fail
     exact ⟨⟨k + 1, av', by omega, by go_num, by rw [HK.out.1, HK.out.2.1]; exact HZ.out.1, HZ.out.2⟩, by simp [intOf]; omega⟩
  ·obtain rfl : k = A.letters.length := by omega
   obtain ⟨wi, rfl⟩ : ∃ wi : World, wi = wr := ⟨_, rfl⟩
   have hS1 : cpS A.bls A.letters.length = copyStates 2 A.bls := by unfold cpS; rw [← HL.out.1, List.take_length]
   have hA1 : cpA A.bls A.letters.length = cpyAll 2 A.bls := by unfold cpA; rw [← HL.out.1, List.take_length]
   have hLl : (cpA A.bls A.letters.length).length ≤ 384 := by
    have := cpA_len (fun l hl => (HL.out.2 l hl).2) A.letters.length (by rw [HL.out.1]; omega)
    omega
   have hbb : copyStates 2 A.bls ≤ 130 := by
    have h1 := copyStates_le A.bls 2 (fun l hl => (HL.out.2 l hl).2)
    rw [HL.out.1] at h1
    omega
   have hfin : ∀ S, ArcsOf (cpA A.bls A.letters.length) S → CopyM A.bls ⟨(copyStates 2 A.bls : Nat), 0, [1], S⟩ := fun S hS => copy_final (fun l hl => (HL.out.2 l hl).1) (by rw [← hA1]; exact hS)
   have Hfin := Lib.hid hfin
   obtain ⟨st, hst⟩ : ∃ st, copyStates 2 A.bls = st := ⟨_, rfl⟩
   obtain ⟨L, hLd⟩ : ∃ L, cpA A.bls A.letters.length = L := ⟨_, rfl⟩
   rw [hst] at hS1 hbb Hfin
   rw [hS1, hLd] at hO
   rw [hLd] at hLl Hfin
   clear hfin hS1 hA1 hst hLd
   obtain ⟨ava, avc, rfl, -, -⟩ := RowAt.of_own hO.arc
   have o0 : wi.cell? ⟨bO, 0, none⟩ = some (.int .i64 (st : Nat)) := hO.blk.cell 0
   have o1 : wi.cell? ⟨bO, 1, none⟩ = some (.int .i64 0) := hO.blk.cell 1
   have o2 : wi.cell? ⟨bO, 2, none⟩ = some (.slice (some ⟨n0, 0, none⟩) 1 1) := hO.blk.cell 2
   have o3 : wi.cell? ⟨bO, 3, none⟩ = some (.slice ava L.length avc) := hO.blk.cell 3
   have hbW : Below (b0 + 2) W0 wi := Hb1.out.trans (hb.mono hz1)
   obtain ⟨-, hmR⟩ := HM.out wi hbW
   have hlO := hO.blk.lt
   have HQ := Lib.hid (And.intro hO (And.intro hmR (And.intro hbW hlO)))
   clear hO hb hmR hbW hlO
   go_wp2_with fail
   refine (made_any (st : Nat) 0 (some ⟨n0, 0, none⟩) 1 1 L (.slice ava L.length avc) n0 wi (by omega) HQ.out.1.arc).mono ?_
   clear o0 o1 o2 o3
   rintro e w5 ⟨S, hS, hc5, hres⟩
   have hSlen := hS.len
   have hR5 := HQ.out.2.1.chg hc5 (fun h => by have := (HQ.out.1.arc.lt _ h).1; omega)
   have hF5 := own_chg HQ.out.1.fin hc5 (fun g e h => by
    rcases own_ne HQ.out.1.fin HQ.out.1.arc (by decide) with q | q
    ·rw [q] at e; cases e
    ·exact q (e.trans h.symm))
   have hbF : Below b0 w w5 := (HW.out.2.1.trans (HQ.out.2.2.1.mono (by omega))).trans (hc5.below (fun k h => by have := (HQ.out.1.arc.lt _ h).1; omega) (by have := HQ.out.2.2.2; omega))
   have hwb := HW.out.2.2.2
   have z0 : w5.cell? ⟨bR, 0, none⟩ = some (.int .i64 0) := hR5.cell 0
   have z1 : w5.cell? ⟨bR, 1, none⟩ = some (.int .i64 0) := hR5.cell 1
   have z2 : w5.cell? ⟨bR, 2, none⟩ = some (.slice none 0 0) := hR5.cell 2
   have z3 : w5.cell? ⟨bR, 3, none⟩ = some (.slice none 0 0) := hR5.cell 3
   have fz : ∀ j, w5.frozen? ⟨bR, j, none⟩ = false := fun j => hR5.frozen j
   have HU := Lib.hid (And.intro (Hfin.out S hS) (And.intro hR5 (And.intro hF5 (And.intro hbF hwb))))
   clear hS hc5 hR5 hF5 hbF hwb
   rcases hres with ⟨hbig, rfl⟩ | ⟨-, aS, cS, rfl, hrS⟩
   ·exfalso
    unfold MadeBig at hbig
    omega
   ·have hcR := fill_chg w5 bR (.int .i64 (st : Nat)) (.int .i64 0) (.slice (some ⟨n0, 0, none⟩) 1 1) (.slice aS S.length cS)
    have Hm := Lib.hid ((made_mach (fl := [1]) (fva := some ⟨n0, 0, none⟩) (fvc := 1) (st := (st : Nat)) (s0 := 0) (cS := cS) HU.out.2.1 HU.out.2.2.1 hrS (by unfold maxLen; omega) (by simp [maxLen])).2 _ hcR)
    have HcR := Lib.hid hcR
    clear hcR hrS
    go_wp2_with fail
    refine bodyPost_ret (v := .tuple #[.agg #[.int .i64 (st : Nat), .int .i64 0, .slice (some ⟨n0, 0, none⟩) 1 1, .slice aS S.length cS], .int .i64 0]) (by simp [results, Tryz.results97, go_sem, z0, z1, z2, z3]) rfl ?_
    refine ⟨_, _, 0, rfl, Hm.out, ?_, .inr ⟨HV.out, rfl, HU.out.1⟩⟩
    have hbF := HU.out.2.2.2.1
    have hwb := HU.out.2.2.2.2
    rw [hwb]
    exact hbF.trans (HcR.out.below (fun k hk => by omega) (by have := hbF.size; omega))
end Go.Proofs.YthachfkcgdfdfaaGreatDoor
