/- Walk: gazetteerref14.Copy. -/
import Derived.Test.YtfihjpffjdnahaaGreatDoorEO
import Derived.Test.YtfihjpffjdnahaaGreatDoorGW
namespace Go.Proofs.YtfihjpffjdnahaaGreatDoor
open Go.RowKit Classical
attribute [local go_sem] undef_bool undef_bool'

set_option maxRecDepth 100000 in
set_option maxHeartbeats 4000000 in
theorem RCopy_any (A : Alph) (v : Value) (w : World) (hA : AlphAt w w.heap.size v A) :
  Calls Tryz.prog 12 #[v] w (CopyPost A w) := by
 have hA0 := hA
 obtain ⟨la, lc, sa, sc, rfl, hn, hl1, hs1, hls, hl, hsm⟩ := hA
 obtain ⟨W0, hW0⟩ : ∃ W0 : World, W0 = (w.alloc (.cells #[.string A.name, .slice la A.letters.length lc, .slice sa A.small.length sc] 28)).alloc (.cells #[.int .i64 0, .int .i64 0, .slice none 0 0, .slice none 0 0] 25) := ⟨_, rfl⟩
 obtain ⟨b0, hb0⟩ : ∃ b, w.heap.size = b := ⟨_, rfl⟩
 have hw0 : Below b0 w W0 := by rw [hW0, ← hb0]; exact ((Below.refl _ _).alloc (Nat.le_refl _) _).alloc (by simp) _
 have hsz0 : W0.heap.size = b0 + 2 := by rw [hW0, ← hb0]; simp
 have kA : Blk W0 b0 #[.string A.name, .slice la A.letters.length lc, .slice sa A.small.length sc] 28 := by rw [hW0, ← hb0]; exact (Blk.new _ _ _).alloc _
 have kR : Blk W0 (b0 + 1) #[.int .i64 0, .int .i64 0, .slice none 0 0, .slice none 0 0] 25 := by
  rw [hW0, ← hb0]; have := Blk.new (w.alloc (.cells #[.string A.name, .slice la A.letters.length lc, .slice sa A.small.length sc] 28)) #[.int .i64 0, .int .i64 0, .slice none 0 0, .slice none 0 0] 25; simpa using this
 have HM := Lib.hid (fun (wr : World) (hbw : Below (b0 + 2) W0 wr) => And.intro (kA.below hbw (by omega)) (kR.below hbw (by omega)))
 have HA := Lib.hid (fun (wr : World) (hbw : Below (b0 + 2) W0 wr) => (show AlphAt wr wr.heap.size (.agg #[.string A.name, .slice la A.letters.length lc, .slice sa A.small.length sc]) A ∧ RowAt wr wr.heap.size la (strs A.letters) from by
  have h1 : Below w.heap.size w wr := by rw [hb0]; exact hw0.trans (hbw.mono (by omega))
  exact ⟨(hA0.below h1 (Nat.le_refl _)).more h1.size, (hl.below h1 (Nat.le_refl _)).more h1.size⟩))
 have HW := Lib.hid (And.intro hW0 (And.intro hw0 (And.intro hsz0 hb0)))
 clear hW0 hw0 hsz0 kA kR hA0 hl hsm hls
 unfold maxLen at hl1 hs1 hn
 go_enter Tryz.func12, Tryz.ntmps12
 go_upto_region 1 with (fail)
 clear hb0
 have hW := HW.out.1
 rw [← hW]
 clear hW
 obtain ⟨bR, hbR⟩ : ∃ b, b = b0 + 1 := ⟨_, rfl⟩
 rw [← hbR]
 have HM := Lib.hid (fun (wr : World) (hbw : Below (b0 + 2) W0 wr) => (show Blk wr b0 #[.string A.name, .slice la A.letters.length lc, .slice sa A.small.length sc] 28 ∧ Blk wr bR #[.int .i64 0, .int .i64 0, .slice none 0 0, .slice none 0 0] 25 from by rw [hbR]; exact HM.out wr hbw))
 have hbl : b0 < bR ∧ bR < b0 + 2 := by omega
 clear hbR
 obtain ⟨hmA, -⟩ := HM.out W0 (Below.refl _ _)
 have m0 : W0.cell? ⟨b0, 0, none⟩ = some (.string A.name) := hmA.cell 0
 have m1 : W0.cell? ⟨b0, 1, none⟩ = some (.slice la A.letters.length lc) := hmA.cell 1
 have m2 : W0.cell? ⟨b0, 2, none⟩ = some (.slice sa A.small.length sc) := hmA.cell 2
 clear hmA
 go_wp2_with fail
 refine (Valid10_any A _ W0 (HA.out W0 (Below.refl _ _)).1).mono ?_
 clear m0 m1 m2
 rintro e w1 ⟨rfl, hb1⟩
 rw [HW.out.2.2.1] at hb1
 obtain ⟨hmA, hmR⟩ := HM.out w1 hb1
 have hz1 : b0 + 2 ≤ w1.heap.size := by have := hb1.size; have := HW.out.2.2.1; omega
 by_cases hv : Valid10 A
 case neg =>
  rw [decide_eq_false hv]
  have z0 : w1.cell? ⟨bR, 0, none⟩ = some (.int .i64 0) := hmR.cell 0
  have z1 : w1.cell? ⟨bR, 1, none⟩ = some (.int .i64 0) := hmR.cell 1
  have z2 : w1.cell? ⟨bR, 2, none⟩ = some (.slice none 0 0) := hmR.cell 2
  have z3 : w1.cell? ⟨bR, 3, none⟩ = some (.slice none 0 0) := hmR.cell 3
  have fz : ∀ j, w1.frozen? ⟨bR, j, none⟩ = false := fun j => hmR.frozen j
  have hbF : Below b0 w w1 := HW.out.2.1.trans (hb1.mono (by omega))
  have hbs := hbF.trans ((fill_chg w1 bR (.int .i64 0) (.int .i64 0) (.slice none 0 0) (.slice none 0 0)).below (B := b0) (fun k hk => by omega) (by omega))
  rw [← HW.out.2.2.2] at hbs
  have Hbs := Lib.hid hbs
  have Hno := Lib.hid hv
  clear hmA hmR hbF hbs hv
  go_wp2_with fail
  refine bodyPost_ret (v := .tuple #[.agg #[.int .i64 0, .int .i64 0, .slice none 0 0, .slice none 0 0], .int .i64 1]) (by simp [results, Tryz.results12, go_sem, z0, z1, z2, z3]) rfl ?_
  exact ⟨_, zeroM, 1, rfl, zero_mach _ _, Hbs.out, .inl ⟨Hno.out, rfl, rfl⟩⟩
 rw [decide_eq_true hv]
 have HV := Lib.hid hv
 have m1 : w1.cell? ⟨b0, 1, none⟩ = some (.slice la A.letters.length lc) := hmA.cell 1
 have Hb1 := Lib.hid hb1
 clear hmA hmR hv hb1
 go_upto_region 4 with (fail)
 generalize hW3 : ((w1.alloc _).alloc _) = W3
 obtain ⟨n0, hn0⟩ : ∃ b, w1.heap.size = b := ⟨_, rfl⟩
 have kF : Blk W3 n0 #[.int .i64 1] 3 := by rw [← hW3, ← hn0]; exact (Blk.new _ _ _).alloc _
 have kO : Blk W3 (n0 + 1) #[.int .i64 2, .int .i64 0, .slice (some ⟨n0, 0, none⟩) 1 1, .slice none 0 0] 25 := by
  rw [← hW3, ← hn0]; have := Blk.new (w1.alloc (.cells #[.int .i64 1] 3)) #[.int .i64 2, .int .i64 0, .slice (some ⟨w1.heap.size, 0, none⟩) 1 1, .slice none 0 0] 25; simpa using this
 have hb3 : Below n0 w1 W3 := by rw [← hW3, ← hn0]; exact ((Below.refl _ _).alloc (Nat.le_refl _) _).alloc (by simp) _
 have hO3 : RS W3 n0 (n0 + 1) 2 0 [1] [] (.slice (some ⟨n0, 0, none⟩) 1 1) (.slice none 0 0) :=
  ⟨⟨kO, ⟨rfl, .inr ⟨n0, 1, _, rfl, Nat.le_refl _, kF, Nat.le_refl _, by unfold maxLen; omega, rfl, rfl⟩⟩, World.ownsRow_nil _ _ _ _⟩, World.ownsRow_nil _ _ _ _, by omega⟩
 rw [hn0] at hz1 ⊢
 have m1' : W3.cell? ⟨b0, 1, none⟩ = some (.slice la A.letters.length lc) := (hb3.cell (p := ⟨b0, 1, none⟩) (by show b0 < n0; omega)).trans m1
 obtain ⟨bO, hbO⟩ : ∃ b, b = n0 + 1 := ⟨_, rfl⟩
 rw [← hbO] at hO3 ⊢
 have hnO : n0 < bO ∧ bO ≤ n0 + 1 := by omega
 have H3 := Lib.hid (And.intro hO3 (And.intro hb3 hn0))
 clear hW3 kF kO hb3 hO3 hn0 m1 hbO
 go_wp2_with fail
 have hlen : A.bls.length = A.letters.length := by unfold Alph.bls; rw [List.length_map]
 have h64 : A.letters.length ≤ 64 := HV.out.1.2.2.1
 have hL3 : ∀ l ∈ A.bls, 1 ≤ l.length ∧ l.length ≤ 3 := (told_of HV.out).len
 have HL := Lib.hid (And.intro hlen hL3)
 clear hlen hL3 m1'
 obtain ⟨ja, hja1, hja2, hja3, hja4⟩ := info_parts info_arc
 go_loopw [5, 6] (fun av s6 wr => ∃ k : Nat, k ≤ A.letters.length ∧ s6 = .int .i64 k ∧ RS wr n0 bO ((cpS A.bls k : Nat) : Int) 0 [1] (cpA A.bls k) (.slice (some ⟨n0, 0, none⟩) 1 1) av ∧ Below n0 w1 wr) (fun _ s6 _ => A.letters.length - (intOf s6).toNat)
 case atStart => exact ⟨0, Nat.zero_le _, rfl, H3.out.1, H3.out.2.1⟩
 case round =>
  obtain ⟨k, hk, rfl, hO, hb⟩ := hrel
  obtain ⟨av, hav⟩ : ∃ av, av = u5 := ⟨_, rfl⟩
  subst hav
  by_cases hkl : k < A.letters.length
  ·have hrow := (HA.out wr (Hb1.out.trans (hb.mono hz1))).2
   obtain ⟨lb, lo, rfl, -, hyc⟩ := hrow.strs (by omega)
   have x0 := hyc k hkl
   have m1 : wr.cell? ⟨b0, 1, none⟩ = some (.slice (some ⟨lb, lo, none⟩) A.letters.length lc) := (HM.out wr (Hb1.out.trans (hb.mono hz1))).1.cell 1
   have hbk : A.bls[k]'(by rw [HL.out.1]; exact hkl) = bl A.letters[k] := by simp [Alph.bls]
   have hmem : A.bls[k]'(by rw [HL.out.1]; exact hkl) ∈ A.bls := List.getElem_mem _
   have hsu := cpS_succ (LS := A.bls) (k := k) (by rw [HL.out.1]; exact hkl)
   have hau := cpA_succ (LS := A.bls) (k := k) (by rw [HL.out.1]; exact hkl)
   have hsz := HL.out.2 _ hmem
   rw [hbk] at hsu hau hsz
   obtain ⟨s, hs⟩ : ∃ s, A.letters[k] = s := ⟨_, rfl⟩
   rw [hs] at x0 hsu hau hsz
   have hbs : (bl s).length = s.size := by unfold bl; simp
   have hbb : cpS A.bls k ≤ 130 := by
    have h1 := copyStates_le (A.bls.take k) 2 (fun l hl => (HL.out.2 l (List.mem_of_mem_take hl)).2)
    have h2 : (A.bls.take k).length ≤ 64 := by rw [List.length_take, HL.out.1]; omega
    unfold cpS
    omega
   have hLl : (cpA A.bls k).length ≤ 384 := by
    have := cpA_len (fun l hl => (HL.out.2 l hl).2) k (by rw [HL.out.1]; omega)
    omega
   obtain ⟨b, hbd⟩ : ∃ b, cpS A.bls k = b := ⟨_, rfl⟩
   obtain ⟨L, hLd⟩ : ∃ L, cpA A.bls k = L := ⟨_, rfl⟩
   rw [hbd] at hO hsu hau hbb
   rw [hLd] at hO hau hLl
   rw [hbs] at hsz hsu hau
   have HK := Lib.hid (And.intro hsu (And.intro hau hbs))
   have HR := Lib.hid (And.intro hO hb)
   clear hrow hyc hbk hmem hsu hau hs hbd hLd hO hb hbs
   obtain ⟨wo, rfl⟩ : ∃ wo : World, wo = wr := ⟨_, rfl⟩
   go_wp2_with fail
   clear x0 m1
   go_loopw [5, 8, 9] (fun av' s8 s9 wx => ∃ (j : Nat) (z : Int), j ≤ s.size ∧ s9 = .int .i64 j ∧ s8 = .int .i64 z ∧ (j < s.size → z = frmL b j) ∧ RS wx n0 bO ((b + min j (s.size - 1) : Nat) : Int) 0 [1] (L ++ cpyL (bl s) b j) (.slice (some ⟨n0, 0, none⟩) 1 1) av' ∧ Below n0 w1 wx) (fun _ _ s9 _ => s.size - (intOf s9).toNat)
   case atStart => exact ⟨0, 0, Nat.zero_le _, rfl, rfl, fun _ => rfl, by simpa [cpyL] using HR.out.1, HR.out.2⟩
   case round =>
    obtain ⟨j, z, hjn, rfl, rfl, hz, hO, hb⟩ := hrel
    by_cases hjl : j < s.size
    ·have o0 : wr.cell? ⟨bO, 0, none⟩ = some (.int .i64 ((b + min j (s.size - 1) : Nat) : Int)) := hO.1.blk.cell 0
     have of0 := hO.1.blk.frozen 0
     obtain rfl := hz hjl
     have hby : byteL (bl s) j = ((s[j].toNat : Nat) : Int) := by unfold byteL; rw [bl_get s j hjl]
     have hcl := cpyL_len (bl s) b j
     obtain ⟨L2, hL2⟩ : ∃ L2, L ++ cpyL (bl s) b j = L2 := ⟨_, rfl⟩
     have hl2 : L2.length ≤ 400 := by rw [← hL2, List.length_append]; omega
     have hsl : L ++ cpyL (bl s) b (j + 1) = L2 ++ cpyOne (bl s) b j := by rw [cpyL_succ, ← List.append_assoc, hL2]
     rw [hL2] at hO
     obtain ⟨xa, xc, rfl, -, -⟩ := RowAt.of_own hO.2.1
     clear hL2 hcl hz
     have hwb : wrap64 ((s[j].toNat : Nat) : Int) = ((s[j].toNat : Nat) : Int) := by
      have h1 := s[j].toNat_lt
      unfold wrap64
      omega
     by_cases hla : j + 1 < s.size
     ·have hst : ((b + min (j + 1) (s.size - 1) : Nat) : Int) = ((b : Int) + (j : Int) + 1) := by omega
      have hlt : letTo (bl s) b j = ((b : Int) + (j : Int)) := by rw [letTo_mid (by rw [HK.out.2.2]; exact hla)]; omega
      have hnz : j + 1 < s.size → ((b : Int) + (j : Int)) = frmL b (j + 1) := fun h => by rw [← hlt]; exact (frmL_succ (by rw [HK.out.2.2]; exact h)).symm
      have hc1 : j ≠ 0 → L ++ cpyL (bl s) b (j + 1) = L2 ++ [⟨frmL b j, (s[j].toNat : Nat), (s[j].toNat : Nat), ((b : Int) + (j : Int))⟩] := fun h => by
       rw [hsl]; unfold cpyOne; rw [if_neg h, hby, hlt]
      have hc0 : j = 0 → L ++ cpyL (bl s) b (j + 1) = (L2 ++ [⟨frmL b j, (s[j].toNat : Nat), (s[j].toNat : Nat), ((b : Int) + (j : Int))⟩]) ++ [⟨1, (s[j].toNat : Nat), (s[j].toNat : Nat), ((b : Int) + (j : Int))⟩] := fun h => by
       have h1 : byteL (bl s) 0 = ((s[j].toNat : Nat) : Int) := by rw [← hby, h]
       have h2 : letTo (bl s) b 0 = ((b : Int) + (j : Int)) := by rw [← hlt, h]
       rw [hsl]; unfold cpyOne; rw [if_pos h, hby, hlt, h1, h2]; simp
      have HC := Lib.hid (And.intro hst (And.intro hnz (And.intro hc1 hc0)))
      have e1 : IntKind.i64.wrap (((b + j : Nat) : Int) + 1) = ((b + (j + 1) : Nat) : Int) := by rw [IntWalk.i64_in _ (by omega)]; omega
      have hmin : min j (s.size - 1) = j := by omega
      rw [hmin] at o0 hO
      have hOs := hO.states ((b : Int) + (j : Int) + 1)
      have Hb := Lib.hid hb
      clear hst hlt hnz hc1 hc0 hO hb hby hsl hmin
      go_upto_region 17 with (fail)
      generalize hWs : wr.setCell ⟨bO, 0, none⟩ _ = Ws at hOs ⊢
      have HO := Lib.hid (And.intro hOs.1 (Hb.out.trans hOs.2))
      clear hWs hOs o0 of0
      go_wp2_with (at_builtin; refine wpList_append_own_at _ rfl _ _ 23 rfl n0 40 ja _ 4 32 Tryz.underlying23 hja1 hja2 hja3 hja4 rfl (by decide) _ _ _ rfl (HO.out.1.2.1.alloc _) ⟨Ws.heap.size, 0, none⟩ 1 1 [.int .i64 (frmL b j), .int .i64 (s[j].toNat : Nat), .int .i64 (s[j].toNat : Nat), .int .i64 ((b : Int) + (j : Int))] rfl rfl (by exact cells_new _ _ _) (by simp [Value.oneCell']) (by unfold maxLen; omega) (by omega) (by have := HO.out.1.1.blk.lt; simp; omega) ?_)
      intro v5 w5 hown5 hgrow5 _ _
      have h5 := HO.out.1.arc_app (x := ⟨frmL b j, (s[j].toNat : Nat), (s[j].toNat : Nat), (b : Int) + (j : Int)⟩) hown5 hgrow5
      have H5 := Lib.hid (And.intro h5.1 (HO.out.2.trans h5.2))
      obtain ⟨va5, vc5, rfl, -, -⟩ := RowAt.of_own hown5
      clear hown5 hgrow5 h5
      by_cases hj0 : j = 0
      ·have d1 : ((j : Int) == 0) = true := by simp [hj0]
       have Hj := Lib.hid hj0
       have hl5 : (L2 ++ [(⟨frmL b j, (s[j].toNat : Nat), (s[j].toNat : Nat), (b : Int) + (j : Int)⟩ : Arc)]).length = L2.length + 1 := by simp
       have H5' := Lib.hid (show w5.ownsRow n0 40 4 (.slice va5 (L2.length + 1) vc5) (L2.length + 1) (flat (L2 ++ [(⟨frmL b j, (s[j].toNat : Nat), (s[j].toNat : Nat), (b : Int) + (j : Int)⟩ : Arc)])) from by have := H5.out.1.2.1; rwa [hl5] at this)
       clear hj0
       go_wp2_with (at_builtin; refine wpList_append_own_at _ rfl _ _ 23 rfl n0 40 ja _ 4 32 Tryz.underlying23 hja1 hja2 hja3 hja4 rfl (by decide) _ _ _ rfl (H5'.out.alloc _) ⟨w5.heap.size, 0, none⟩ 1 1 [.int .i64 1, .int .i64 (s[j].toNat : Nat), .int .i64 (s[j].toNat : Nat), .int .i64 ((b : Int) + (j : Int))] rfl rfl (by exact cells_new _ _ _) (by simp [Value.oneCell']) (by unfold maxLen; omega) (by omega) (by have := H5.out.1.1.blk.lt; simp; omega) ?_)
       intro v6 w6 hown6 hgrow6 _ _
       have h6 := H5.out.1.arc_app (x := ⟨1, (s[j].toNat : Nat), (s[j].toNat : Nat), (b : Int) + (j : Int)⟩) (by rw [hl5]; exact hown6) hgrow6
       have H6 := Lib.hid (And.intro h6.1 (H5.out.2.trans h6.2))
       clear hown6 hgrow6 h6 H5'
       go_wp2_with fail
       exact ⟨⟨j + 1, _, by omega, by go_num, rfl, HC.out.2.1, by rw [HC.out.1, HC.out.2.2.2 Hj.out]; exact H6.out.1, H6.out.2⟩, by simp [intOf]; omega⟩
      ·have d1 : ((j : Int) == 0) = false := by simp; omega
       have Hj := Lib.hid hj0
       go_wp2_with fail
       exact ⟨⟨j + 1, _, by omega, by go_num, rfl, HC.out.2.1, by rw [HC.out.1, HC.out.2.2.1 Hj.out]; exact H5.out.1, H5.out.2⟩, by simp [intOf]; omega⟩
     ·have hst : ((b + min (j + 1) (s.size - 1) : Nat) : Int) = ((b + min j (s.size - 1) : Nat) : Int) := by omega
      have hlt : letTo (bl s) b j = 1 := by exact letTo_last (by rw [HK.out.2.2]; omega)
      have hnz : j + 1 < s.size → 1 = frmL b (j + 1) := fun h => by rw [← hlt]; exact (frmL_succ (by rw [HK.out.2.2]; exact h)).symm
      have hc1 : j ≠ 0 → L ++ cpyL (bl s) b (j + 1) = L2 ++ [⟨frmL b j, (s[j].toNat : Nat), (s[j].toNat : Nat), 1⟩] := fun h => by
       rw [hsl]; unfold cpyOne; rw [if_neg h, hby, hlt]
      have hc0 : j = 0 → L ++ cpyL (bl s) b (j + 1) = (L2 ++ [⟨frmL b j, (s[j].toNat : Nat), (s[j].toNat : Nat), 1⟩]) ++ [⟨1, (s[j].toNat : Nat), (s[j].toNat : Nat), 1⟩] := fun h => by
       have h1 : byteL (bl s) 0 = ((s[j].toNat : Nat) : Int) := by rw [← hby, h]
       have h2 : letTo (bl s) b 0 = 1 := by rw [← hlt, h]
       rw [hsl]; unfold cpyOne; rw [if_pos h, hby, hlt, h1, h2]; simp
      have HC := Lib.hid (And.intro hst (And.intro hnz (And.intro hc1 hc0)))
      obtain ⟨Ws, rfl⟩ : ∃ Ws : World, Ws = wr := ⟨_, rfl⟩
      have HO := Lib.hid (And.intro hO hb)
      clear hst hlt hnz hc1 hc0 hO hb hby hsl
      go_wp2_with (at_builtin; refine wpList_append_own_at _ rfl _ _ 23 rfl n0 40 ja _ 4 32 Tryz.underlying23 hja1 hja2 hja3 hja4 rfl (by decide) _ _ _ rfl (HO.out.1.2.1.alloc _) ⟨Ws.heap.size, 0, none⟩ 1 1 [.int .i64 (frmL b j), .int .i64 (s[j].toNat : Nat), .int .i64 (s[j].toNat : Nat), .int .i64 (1)] rfl rfl (by exact cells_new _ _ _) (by simp [Value.oneCell']) (by unfold maxLen; omega) (by omega) (by have := HO.out.1.1.blk.lt; simp; omega) ?_)
      intro v5 w5 hown5 hgrow5 _ _
      have h5 := HO.out.1.arc_app (x := ⟨frmL b j, (s[j].toNat : Nat), (s[j].toNat : Nat), 1⟩) hown5 hgrow5
      have H5 := Lib.hid (And.intro h5.1 (HO.out.2.trans h5.2))
      obtain ⟨va5, vc5, rfl, -, -⟩ := RowAt.of_own hown5
      clear hown5 hgrow5 h5
      by_cases hj0 : j = 0
      ·have d1 : ((j : Int) == 0) = true := by simp [hj0]
       have Hj := Lib.hid hj0
       have hl5 : (L2 ++ [(⟨frmL b j, (s[j].toNat : Nat), (s[j].toNat : Nat), 1⟩ : Arc)]).length = L2.length + 1 := by simp
       have H5' := Lib.hid (show w5.ownsRow n0 40 4 (.slice va5 (L2.length + 1) vc5) (L2.length + 1) (flat (L2 ++ [(⟨frmL b j, (s[j].toNat : Nat), (s[j].toNat : Nat), 1⟩ : Arc)])) from by have := H5.out.1.2.1; rwa [hl5] at this)
       clear hj0
       go_wp2_with (at_builtin; refine wpList_append_own_at _ rfl _ _ 23 rfl n0 40 ja _ 4 32 Tryz.underlying23 hja1 hja2 hja3 hja4 rfl (by decide) _ _ _ rfl (H5'.out.alloc _) ⟨w5.heap.size, 0, none⟩ 1 1 [.int .i64 1, .int .i64 (s[j].toNat : Nat), .int .i64 (s[j].toNat : Nat), .int .i64 (1)] rfl rfl (by exact cells_new _ _ _) (by simp [Value.oneCell']) (by unfold maxLen; omega) (by omega) (by have := H5.out.1.1.blk.lt; simp; omega) ?_)
       intro v6 w6 hown6 hgrow6 _ _
       have h6 := H5.out.1.arc_app (x := ⟨1, (s[j].toNat : Nat), (s[j].toNat : Nat), 1⟩) (by rw [hl5]; exact hown6) hgrow6
       have H6 := Lib.hid (And.intro h6.1 (H5.out.2.trans h6.2))
       clear hown6 hgrow6 h6 H5'
       go_wp2_with fail
       exact ⟨⟨j + 1, _, by omega, by go_num, rfl, HC.out.2.1, by rw [HC.out.1, HC.out.2.2.2 Hj.out]; exact H6.out.1, H6.out.2⟩, by simp [intOf]; omega⟩
      ·have d1 : ((j : Int) == 0) = false := by simp; omega
       have Hj := Lib.hid hj0
       go_wp2_with fail
       exact ⟨⟨j + 1, _, by omega, by go_num, rfl, HC.out.2.1, by rw [HC.out.1, HC.out.2.2.1 Hj.out]; exact H5.out.1, H5.out.2⟩, by simp [intOf]; omega⟩
    ·obtain rfl : j = s.size := by omega
     have hst : b + min s.size (s.size - 1) = b + s.size - 1 := by omega
     rw [hst] at hO
     have HZ := Lib.hid (And.intro hO hb)
     clear hO hb hst hz
     go_wp2_with fail
     exact ⟨⟨k + 1, by omega, by go_num, by rw [HK.out.1, HK.out.2.1]; exact HZ.out.1, HZ.out.2⟩, by simp [intOf]; omega⟩
  ·obtain rfl : k = A.letters.length := by omega
   obtain ⟨wi, rfl⟩ : ∃ wi : World, wi = wr := ⟨_, rfl⟩
   have m1 : wi.cell? ⟨b0, 1, none⟩ = some (.slice la A.letters.length lc) := (HM.out wi (Hb1.out.trans (hb.mono hz1))).1.cell 1
   have hS1 : cpS A.bls A.letters.length = copyStates 2 A.bls := by unfold cpS; rw [← HL.out.1, List.take_length]
   have hA1 : cpA A.bls A.letters.length = cpyAll 2 A.bls := by unfold cpA; rw [← HL.out.1, List.take_length]
   have hLl : (cpA A.bls A.letters.length).length ≤ 384 := by
    have := cpA_len (fun l hl => (HL.out.2 l hl).2) A.letters.length (by rw [HL.out.1]; omega)
    omega
   have hbb : copyStates 2 A.bls ≤ 130 := by
    have h1 := copyStates_le A.bls 2 (fun l hl => (HL.out.2 l hl).2)
    rw [HL.out.1] at h1
    omega
   have hfin : ∀ S, ArcsOf (cpA A.bls A.letters.length) S → CopyM A.bls ⟨(copyStates 2 A.bls : Nat), 0, [1], S⟩ := fun S hS => copy_final (fun l hl => (HL.out.2 l hl).1) (by rw [← hA1]; exact hS)
   have Hfin := Lib.hid hfin
   obtain ⟨st, hst⟩ : ∃ st, copyStates 2 A.bls = st := ⟨_, rfl⟩
   obtain ⟨L, hLd⟩ : ∃ L, cpA A.bls A.letters.length = L := ⟨_, rfl⟩
   rw [hst] at hS1 hbb Hfin
   rw [hS1, hLd] at hO
   rw [hLd] at hLl Hfin
   clear hfin hS1 hA1 hst hLd
   have hbW : Below (b0 + 2) W0 wi := Hb1.out.trans (hb.mono hz1)
   have HQ := Lib.hid (And.intro hO hbW)
   obtain ⟨ava, avc, rfl, -, hrow⟩ := RowAt.of_own hO.2.1
   clear hO hb hbW
   go_wp2_with fail
   refine (Sorted12_any L ava avc (by omega) wi hrow).mono ?_
   clear hrow m1
   rintro e w5 ⟨v5, S, rfl, hinc, hmem, hown5, hb5⟩
   obtain ⟨q1, q2, q3, q4, q5⟩ := HQ.out.1.sorted hb5 hown5
   obtain ⟨aS, cS, rfl, -, -⟩ := RowAt.of_own hown5
   have hlt := HQ.out.1.1.blk.lt
   have q6 : Below (b0 + 2) W0 (w5.setCell ⟨bO, 3, none⟩ (.slice aS S.length cS)) := HQ.out.2.trans (q4.mono hz1)
   have hS : ArcsOf L S := ⟨hinc, hmem⟩
   have hSlen := hS.len
   have o3 : w5.cell? ⟨bO, 3, none⟩ = some (.slice none 0 0) := q5.cell 3
   have of3 := q5.frozen 3
   have HU := Lib.hid (And.intro (Hfin.out S hS) (And.intro q1 (And.intro q2 (And.intro q3 q6))))
   clear hinc hmem hown5 hb5 q1 q2 q3 q4 q5 q6 hS
   go_upto_region 23 with (fail)
   generalize hWs : w5.setCell ⟨bO, 3, none⟩ _ = Ws at HU ⊢
   clear hWs o3 of3
   have o0 : Ws.cell? ⟨bO, 0, none⟩ = some (.int .i64 (st : Nat)) := HU.out.2.1.cell 0
   have o1 : Ws.cell? ⟨bO, 1, none⟩ = some (.int .i64 0) := HU.out.2.1.cell 1
   have o2 : Ws.cell? ⟨bO, 2, none⟩ = some (.slice (some ⟨n0, 0, none⟩) 1 1) := HU.out.2.1.cell 2
   have o3 : Ws.cell? ⟨bO, 3, none⟩ = some (.slice aS S.length cS) := HU.out.2.1.cell 3
   obtain ⟨-, hmR⟩ := HM.out Ws HU.out.2.2.2.2
   have z0 : Ws.cell? ⟨bR, 0, none⟩ = some (.int .i64 0) := hmR.cell 0
   have z1 : Ws.cell? ⟨bR, 1, none⟩ = some (.int .i64 0) := hmR.cell 1
   have z2 : Ws.cell? ⟨bR, 2, none⟩ = some (.slice none 0 0) := hmR.cell 2
   have z3 : Ws.cell? ⟨bR, 3, none⟩ = some (.slice none 0 0) := hmR.cell 3
   have fz : ∀ j, Ws.frozen? ⟨bR, j, none⟩ = false := fun j => hmR.frozen j
   obtain ⟨_, _, e1, -, hrS⟩ := RowAt.of_own HU.out.2.2.2.1
   injection e1 with e1 _ e1c
   subst e1 e1c
   have hcR := fill_chg Ws bR (.int .i64 (st : Nat)) (.int .i64 0) (.slice (some ⟨n0, 0, none⟩) 1 1) (.slice aS S.length cS)
   have Hm := Lib.hid ((made_mach (fl := [1]) (fva := some ⟨n0, 0, none⟩) (fvc := 1) (st := (st : Nat)) (s0 := 0) (cS := cS) hmR HU.out.2.2.1 hrS (by unfold maxLen; omega) (by simp [maxLen])).2 _ hcR)
   have HcR := Lib.hid hcR
   clear hcR hrS hmR
   go_wp2_with fail
   refine bodyPost_ret (v := .tuple #[.agg #[.int .i64 (st : Nat), .int .i64 0, .slice (some ⟨n0, 0, none⟩) 1 1, .slice aS S.length cS], .int .i64 0]) (by simp [results, Tryz.results12, go_sem, z0, z1, z2, z3]) rfl ?_
   refine ⟨_, _, 0, rfl, Hm.out, ?_, .inr ⟨HV.out, rfl, HU.out.1⟩⟩
   have hbF := HU.out.2.2.2.2
   have hwb := HW.out.2.2.2
   rw [hwb]
   exact (HW.out.2.1.trans (hbF.mono (by omega))).trans (HcR.out.below (fun k hk => by omega) (by have := hbF.size; have := HW.out.2.2.1; omega))
end Go.Proofs.YtfihjpffjdnahaaGreatDoor
