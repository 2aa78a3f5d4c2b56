/- W11b · W11c -/
import Derived.Test.YtielbaaaipkbdaaGreatDoorGW
/- Walks of the reference's rules (gazetteerref11), second part. -/
namespace Go.Proofs.YtielbaaaipkbdaaGreatDoor
open Go.RowKit Classical

structure AlphOk (A : Alph) : Prop where
  nodup : A.bls.Nodup
  len : ∀ l ∈ A.bls, 1 ≤ l.length ∧ l.length ≤ 3
theorem Valid10.ok {A : Alph} (h : Valid10 A) : AlphOk A := ⟨h.1.nodup, h.1.len⟩

/-- The letters of a text of at most some letters, which may be empty. -/
def lettersL (L : List (List UInt8)) (t : List UInt8) : List Int := if t = [] then [] else (readL L t).letters
def LettersOk (L : List (List UInt8)) (t : List UInt8) (most : Nat) : Prop := t = [] ∨ (readL L t).err = 0 ∧ (readL L t).letters.length ≤ most

theorem empty_iff (s : ByteArray) : s.toList.isEmpty = true ↔ bl s = [] := by
  rw [ByteArray.toList_eq]; unfold bl; cases s.data.toList <;> simp
theorem empty_no {s : ByteArray} (h : bl s ≠ []) : s.toList.isEmpty = false := by
  rw [← Bool.not_eq_true, empty_iff]; exact h
theorem nil_yes {s : ByteArray} (h : bl s = []) : s.toList = [] := by
  rw [ByteArray.toList_eq]; exact h

theorem rfl_pair {u : Value} {a b : Bool} (h : a = b) : Ending.returned (.tuple #[u, .bool a]) = .returned (.tuple #[u, .bool b]) := by rw [h]

set_option maxRecDepth 100000 in
set_option maxHeartbeats 400000 in
theorem letters11_any (A : Alph) (hok : AlphOk A) (s : ByteArray) (most : Nat) (hs : s.size ≤ maxLen) (v : Value) (w : World) (h : AlphAt w w.heap.size v A) :
    Calls Tryz.prog 64 #[v, .string s, .int .i64 most] w fun e w' =>
      ∃ u, e = .returned (.tuple #[u, .bool (decide (LettersOk A.bls (bl s) most))]) ∧
        w'.ownsRow w.heap.size 3 1 u (lettersL A.bls (bl s)).length (nums (lettersL A.bls (bl s))) ∧ Below w.heap.size w w' := by
  have hA := h
  obtain ⟨la, lc, sa, sc, rfl, hn, hl1, hs1, hls, hl, hsm⟩ := h
  go_enter Tryz.func64, Tryz.ntmps64
  by_cases he : bl s = []
  · have h1 := nil_yes he
    go_wp2
    go_ret2
    refine ⟨_, rfl_pair (decide_eq_true (.inl he)).symm, ?_, (Below.refl _ _).alloc (Nat.le_refl _) _⟩
    rw [lettersL, if_pos he]; exact World.ownsRow_nil _ _ _ _
  · have h1 := empty_no he
    have He := Lib.hid he
    clear he
    go_wp2_with fail
    refine (Letters10_any A hok.nodup hok.len s hs _ _ ((hA.below ((Below.refl _ _).alloc (Nat.le_refl _) _) (Nat.le_refl _)).more (by simp))).mono ?_
    rintro e w1 ⟨u, rfl, hown, hb1⟩
    obtain ⟨ua, uc, rfl, _⟩ := RowAt.of_own hown
    have Ho := Lib.hid hown
    clear hown
    by_cases herr : (readL A.bls (bl s)).err = 0
    · have hq : ((readL A.bls (bl s)).err == 0) = true := by simp [herr]
      have Herr := Lib.hid herr
      clear herr
      go_wp2
      go_ret2
      refine ⟨_, rfl_pair ?_, ?_, ((Below.refl _ _).alloc (Nat.le_refl _) _).trans (hb1.mono (by simp))⟩
      · rw [Bool.eq_iff_iff, decide_eq_true_iff, decide_eq_true_iff, LettersOk]
        simp [He.out, Herr.out]
      · rw [lettersL, if_neg He.out]; exact own_base Ho.out (by simp)
    · have hq : ((readL A.bls (bl s)).err == 0) = false := by simp [herr]
      go_wp2
      go_ret2
      refine ⟨_, rfl_pair (decide_eq_false (fun h => h.elim He.out (fun h => herr h.1))).symm, ?_, ((Below.refl _ _).alloc (Nat.le_refl _) _).trans (hb1.mono (by simp))⟩
      rw [lettersL, if_neg He.out]; exact own_base Ho.out (by simp)

def Rul.ok (r : Rul) : Prop := Plain11 r.src 1 9 ∧ Plain11 r.dst 0 9 ∧ Plain11 r.nxt 0 30 ∧ ¬ (r.fin = true ∧ bl r.nxt ≠ [])
def Formed11 (R : Ruls) : Prop :=
  nameB (bl R.src) = true ∧ nameB (bl R.dst) = true ∧ 1 ≤ R.list.length ∧ R.list.length ≤ 80 ∧ (∀ r ∈ R.list, r.ok) ∧ R.list.Nodup

set_option maxRecDepth 100000 in
set_option maxHeartbeats 1000000 in
theorem formed11_any (R : Ruls) (v : Value) (w : World) (h : RulsAt w w.heap.size v R) :
    Calls Tryz.prog 62 #[v] w fun e w' => e = .returned (.bool (decide (Formed11 R))) ∧ Below w.heap.size w w' := by
  have hR := h
  obtain ⟨la, lc, rfl, hs1, hs2, hln, hlr, hl⟩ := h
  have hln2 := hln
  unfold maxLen at hln
  go_enter Tryz.func62, Tryz.ntmps62
  go_wp2_with (first | (go_at_call 98; refine (Name04_any _ _ (by assumption)).mono ?_; rintro e w1 ⟨rfl, rfl⟩))
  · have h4 : (R.list.length : Int) < 1 ∨ (80 : Int) < R.list.length := by assumption
    go_ret
    exact ⟨ret_no fun hf => by have := hf.2.2.1; have := hf.2.2.2.1; omega, (Below.refl _ _).alloc (Nat.le_refl _) _⟩
  · have h1 : nameB (bl R.src) = true := by assumption
    have h2 : nameB (bl R.dst) = true := by assumption
    have h4 : (1 : Int) ≤ R.list.length ∧ (R.list.length : Int) ≤ 80 := by assumption
    obtain ⟨b, off, rfl, hb, hc⟩ := hl.ruls (by omega)
    obtain ⟨W0, hW0⟩ : ∃ W0 : World, W0 = (w.alloc (.cells #[.string R.src, .string R.dst, .slice (some ⟨b, off, none⟩) R.list.length lc] 24)) := ⟨_, rfl⟩
    rw [← hW0]
    have hw0 : Below w.heap.size w W0 := by rw [hW0]; exact (Below.refl _ _).alloc (Nat.le_refl _) _
    have hsz : W0.heap.size = w.heap.size + 1 := by rw [hW0]; simp
    have hcr := fun wr (hbw : Below w.heap.size w wr) i (hi : i < R.list.length) =>
      (And.intro ((hbw.cell (p := ⟨b, off + i * 4, none⟩) hb).trans (hc i hi).1) (And.intro ((hbw.cell (p := ⟨b, off + i * 4 + 1, none⟩) hb).trans (hc i hi).2.1)
        (And.intro ((hbw.cell (p := ⟨b, off + i * 4 + 2, none⟩) hb).trans (hc i hi).2.2.1) ((hbw.cell (p := ⟨b, off + i * 4 + 3, none⟩) hb).trans (hc i hi).2.2.2))))
    have Hcr := Lib.hid hcr
    have H12 := Lib.hid (And.intro h1 h2)
    clear hc hcr h1 h2
    go_loopw [3] (fun i wr => ∃ k : Nat, k ≤ R.list.length ∧ i = .int .i64 k ∧ (∀ (a : Nat) r, a < k → R.list[a]? = some r → r.ok) ∧ (∀ (a c : Nat) r, a < c → c < k → R.list[a]? = some r → R.list[c]? ≠ some r) ∧ Below W0.heap.size W0 wr) (fun i _ => R.list.length - (intOf i).toNat)
    case atStart => exact ⟨0, Nat.zero_le _, rfl, by simp, by simp, Below.refl _ _⟩
    case round =>
      obtain ⟨k, hk, rfl, hok, hap, hbw⟩ := hrel
      have Hok := Lib.hid hok
      have Hap := Lib.hid hap
      have hwr : Below w.heap.size w wr := hw0.trans (hbw.mono (by omega))
      have hsr := hbw.size
      have c1 : wr.cell? ⟨w.heap.size, 2, none⟩ = some (.slice (some ⟨b, off, none⟩) R.list.length lc) := (hbw.cell (p := ⟨w.heap.size, 2, none⟩) (by simp [hsz])).trans (by rw [hW0]; simp)
      clear hok hap
      by_cases hkl : k < R.list.length
      · obtain ⟨k0, k1, k2, k3⟩ := Hcr.out wr hwr k hkl
        have hz := hlr _ (List.getElem_mem hkl)
        obtain ⟨hz1, hz2, hz3⟩ := hz
        have hbad := fun (h : ¬ R.list[k].ok) (hf : Formed11 R) => h (hf.2.2.2.2.1 _ (List.getElem_mem hkl))
        have Hbad := Lib.hid hbad
        clear hbad
        by_cases hok : R.list[k].ok
        · have p1 := hok.1
          have p2 := hok.2.1
          have p3 := hok.2.2.1
          have p4 : R.list[k].fin = true → R.list[k].nxt.toList.isEmpty = true := fun h => (empty_iff _).2 (Classical.not_not.1 fun h2 => hok.2.2.2 ⟨h, h2⟩)
          have P4 := Lib.hid p4
          have HOK := Lib.hid hok
          clear p4 hok
          have hway : (R.list[k].fin = true ∧ R.list[k].nxt.toList = []) ∨ R.list[k].fin = false := by
            cases hfin : R.list[k].fin with
            | false => exact .inr rfl
            | true => exact .inl ⟨rfl, by simpa using P4.out hfin⟩
          rcases hway with ⟨hfin, hnx⟩ | hfin
          all_goals
            go_wp2_with (first | (go_at_call 99; refine (plain11_any _ _ _ _ (by assumption)).mono ?_; rintro e w1 ⟨rfl, rfl⟩))
            obtain ⟨wo, hwo⟩ : ∃ wo : World, wo = wr.alloc (.cells #[.string R.list[k].src, .string R.list[k].dst, .string R.list[k].nxt, .bool R.list[k].fin] 44) := ⟨_, rfl⟩
            have hwo' := hwo
            simp only [hfin] at hwo'
            rw [← hwo']
            have hbo : Below W0.heap.size W0 wo := by rw [hwo]; exact hbw.alloc hsr _
            have hso : wo.heap.size = wr.heap.size + 1 := by rw [hwo]; simp
            have x0 : wo.cell? ⟨wr.heap.size, 0, none⟩ = some (.string R.list[k].src) := by rw [hwo]; simp
            have x1 : wo.cell? ⟨wr.heap.size, 1, none⟩ = some (.string R.list[k].dst) := by rw [hwo]; simp
            have x2 : wo.cell? ⟨wr.heap.size, 2, none⟩ = some (.string R.list[k].nxt) := by rw [hwo]; simp
            have x3 : wo.cell? ⟨wr.heap.size, 3, none⟩ = some (.bool R.list[k].fin) := by rw [hwo]; simp
            have X := Lib.hid (And.intro x0 (And.intro x1 (And.intro x2 x3)))
            clear x0 x1 x2 x3 k0 k1 k2 k3 c1 hwo hwo' hfin
            obtain ⟨wi, rfl⟩ : ∃ wi : World, wi = wr := ⟨_, rfl⟩
            go_loopw [5] (fun i wr => ∃ m : Nat, m ≤ k ∧ i = .int .i64 m ∧ (∀ (a : Nat) r, a < m → R.list[a]? = some r → r ≠ R.list[k]) ∧ Below wo.heap.size wo wr) (fun i _ => k - (intOf i).toNat)
            case atStart => exact ⟨0, Nat.zero_le _, rfl, by simp, Below.refl _ _⟩
            case round =>
              obtain ⟨m, hm, rfl, hne, hbx⟩ := hrel
              have Hne := Lib.hid hne
              clear hne
              have hbx0 : Below W0.heap.size W0 wr := hbo.trans (hbx.mono (by omega))
              have hwx : Below w.heap.size w wr := hw0.trans (hbx0.mono (by omega))
              have hsx := hbx.size
              have y0 := (hbx.cell (p := ⟨wi.heap.size, 0, none⟩) (by simp; omega)).trans X.out.1
              have y1 := (hbx.cell (p := ⟨wi.heap.size, 1, none⟩) (by simp; omega)).trans X.out.2.1
              have y2 := (hbx.cell (p := ⟨wi.heap.size, 2, none⟩) (by simp; omega)).trans X.out.2.2.1
              have y3 := (hbx.cell (p := ⟨wi.heap.size, 3, none⟩) (by simp; omega)).trans X.out.2.2.2
              have c1 : wr.cell? ⟨w.heap.size, 2, none⟩ = some (.slice (some ⟨b, off, none⟩) R.list.length lc) := (hbx0.cell (p := ⟨w.heap.size, 2, none⟩) (by simp [hsz])).trans (by rw [hW0]; simp)
              by_cases hmk : m < k
              · obtain ⟨m0, m1, m2, m3⟩ := Hcr.out wr hwx m (by omega)
                have heq := eql_rule R.list[m] R.list[k]
                have hgd := guard_rule
                by_cases he : R.list[m] = R.list[k]
                · have hd : decide (R.list[m] = R.list[k]) = true := decide_eq_true he
                  have He := Lib.hid he
                  clear he
                  go_wp2_with fail
                  go_quiet (fail)
                  go_wp2
                  go_ret
                  refine ⟨ret_no fun hf => ?_, below_drewN hwx _⟩
                  exact List.pairwise_iff_getElem.1 hf.2.2.2.2.2 m k (by omega) hkl hmk He.out
                · have hd : decide (R.list[m] = R.list[k]) = false := decide_eq_false he
                  have He := Lib.hid he
                  clear he
                  go_wp2_with fail
                  go_quiet (fail)
                  go_wp2
                  refine ⟨⟨m + 1, by omega, by go_num, fun a r ha hr => ?_, below_drewN hbx _⟩, by simp [intOf]; omega⟩
                  rcases Nat.lt_succ_iff_lt_or_eq.1 ha with ha | rfl
                  · exact Hne.out a r ha hr
                  · rw [List.getElem?_eq_getElem (by omega)] at hr
                    obtain rfl := Option.some.inj hr
                    exact He.out
              · obtain rfl : m = k := by omega
                go_wp2
                refine ⟨⟨m + 1, by omega, by go_num, fun a r ha hr => ?_, fun a c r hac hc hr hr2 => ?_, hbx0⟩, by simp [intOf]; omega⟩
                · rcases Nat.lt_succ_iff_lt_or_eq.1 ha with ha | rfl
                  · exact Hok.out a r ha hr
                  · rw [List.getElem?_eq_getElem hkl] at hr
                    obtain rfl := Option.some.inj hr
                    exact HOK.out
                · rcases Nat.lt_succ_iff_lt_or_eq.1 hc with hc | rfl
                  · exact Hap.out a c r hac hc hr hr2
                  · rw [List.getElem?_eq_getElem hkl] at hr2
                    obtain rfl := Option.some.inj hr2
                    exact Hne.out a _ hac hr rfl
        · have Hb := Lib.hid (Hbad.out hok)
          have hbel : Below w.heap.size w (wr.alloc (.cells #[.string R.list[k].src, .string R.list[k].dst, .string R.list[k].nxt, .bool R.list[k].fin] 44)) := hwr.alloc (by omega) _
          have hnok := Lib.hid hok
          clear hok
          by_cases p1 : Plain11 R.list[k].src 1 9
          · by_cases p2 : Plain11 R.list[k].dst 0 9
            · by_cases p3 : Plain11 R.list[k].nxt 0 30
              · have hx : R.list[k].fin = true ∧ R.list[k].nxt.toList.isEmpty = false := by
                  refine Classical.byContradiction fun h => hnok.out ⟨p1, p2, p3, fun h2 => h ⟨h2.1, empty_no h2.2⟩⟩
                obtain ⟨hfin, hnx⟩ := hx
                simp only [hfin] at hbel
                go_wp2_with (first | (go_at_call 99; refine (plain11_any _ _ _ _ (by assumption)).mono ?_; rintro e w1 ⟨rfl, rfl⟩))
                go_ret
                exact ⟨ret_no Hb.out, hbel⟩
              · go_wp2_with (first | (go_at_call 99; refine (plain11_any _ _ _ _ (by assumption)).mono ?_; rintro e w1 ⟨rfl, rfl⟩))
                go_ret
                exact ⟨ret_no Hb.out, hbel⟩
            · go_wp2_with (first | (go_at_call 99; refine (plain11_any _ _ _ _ (by assumption)).mono ?_; rintro e w1 ⟨rfl, rfl⟩))
              go_ret
              exact ⟨ret_no Hb.out, hbel⟩
          · go_wp2_with (first | (go_at_call 99; refine (plain11_any _ _ _ _ (by assumption)).mono ?_; rintro e w1 ⟨rfl, rfl⟩))
            go_ret
            exact ⟨ret_no Hb.out, hbel⟩
      · go_wp2
        go_ret
        refine ⟨ret_yes ⟨H12.out.1, H12.out.2, by omega, by omega, fun r hr => ?_, ?_⟩, hwr⟩
        · obtain ⟨i, hi, rfl⟩ := List.getElem_of_mem hr
          exact Hok.out i _ (by omega) (List.getElem?_eq_getElem hi)
        · refine List.pairwise_iff_getElem.2 fun i j' hi hj' hij e => ?_
          exact Hap.out i j' _ hij (by omega) (List.getElem?_eq_getElem hi) (by rw [List.getElem?_eq_getElem hj', e])
  · have h4 : (R.list.length : Int) < 1 := by assumption
    go_ret
    exact ⟨ret_no fun hf => by have := hf.2.2.1; omega, (Below.refl _ _).alloc (Nat.le_refl _) _⟩
  · have h4 : ¬ nameB (bl R.dst) = true := by assumption
    go_ret
    exact ⟨ret_no fun hf => h4 hf.2.1, (Below.refl _ _).alloc (Nat.le_refl _) _⟩
  · have h4 : ¬ nameB (bl R.src) = true := by assumption
    go_ret
    exact ⟨ret_no fun hf => h4 hf.1, (Below.refl _ _).alloc (Nat.le_refl _) _⟩

end Go.Proofs.YtielbaaaipkbdaaGreatDoor

/- Walk of the reference's 'Valid' on rules (gazetteerref11). -/
namespace Go.Proofs.YtielbaaaipkbdaaGreatDoor
open Go.RowKit Classical

def Rul.lettered (A B : Alph) (r : Rul) : Prop := LettersOk A.bls (bl r.src) 3 ∧ LettersOk B.bls (bl r.dst) 3 ∧ LettersOk A.bls (bl r.nxt) 10
def Valid11 (R : Ruls) (A B : Alph) : Prop :=
  Formed11 R ∧ Valid10 A ∧ Valid10 B ∧ R.src = A.name ∧ R.dst = B.name ∧ ∀ r ∈ R.list, r.lettered A B

theorem bytes_ne {a b : ByteArray} : (!a.toList == b.toList) = true ↔ a ≠ b := by
  rw [ByteArray.toList_eq, ByteArray.toList_eq, Bool.not_eq_true', beq_eq_false_iff_ne]
  exact ⟨fun h e => h (by rw [e]), fun h e => h (bl_inj e)⟩

set_option maxRecDepth 100000 in
set_option maxHeartbeats 2000000 in
theorem valid11_any (R : Ruls) (A B : Alph) (v va vb : Value) (w : World) (h : RulsAt w w.heap.size v R) (ha : AlphAt w w.heap.size va A) (hb : AlphAt w w.heap.size vb B) :
    Calls Tryz.prog 35 #[v, va, vb] w fun e w' => e = .returned (.bool (decide (Valid11 R A B))) ∧ Below w.heap.size w w' := by
  have hR := h
  have hA := ha
  have hB := hb
  obtain ⟨la, lc, rfl, hs1, hs2, hln, hlr, hl⟩ := h
  obtain ⟨fa, fc, ga, gc, rfl, hn, hl1, hs3, hls, hfl, hfs⟩ := ha
  obtain ⟨fa2, fc2, ga2, gc2, rfl, hn2, hl2, hs4, hls2, hfl2, hfs2⟩ := hb
  have hln2 := hln
  unfold maxLen at hln
  go_enter Tryz.func35, Tryz.ntmps35
  go_wp2_with fail
  generalize hW0 : (((w.alloc _).alloc _).alloc _) = W0
  have hw0 : Below w.heap.size w W0 := by rw [← hW0]; exact (((Below.refl _ _).alloc (Nat.le_refl _) _).alloc (by simp) _).alloc (by simp; omega) _
  have hsz : W0.heap.size = w.heap.size + 3 := by rw [← hW0]; simp
  have hbr : Box W0 w.heap.size [Value.string R.src, .string R.dst, .slice la R.list.length lc] := by
    rw [← hW0]; exact ((Box.new _ _ _).alloc (by simp) _).alloc (by simp; omega) _
  have hba : Box W0 (w.heap.size + 1) [Value.string A.name, .slice fa A.letters.length fc, .slice ga A.small.length gc] := by
    rw [← hW0]; have := (Box.new (w.alloc (.cells #[Value.string R.src, .string R.dst, .slice la R.list.length lc] 24)) [Value.string A.name, .slice fa A.letters.length fc, .slice ga A.small.length gc] 28)
    simp at this; exact this.alloc (by simp) _
  have hbb : Box W0 (w.heap.size + 2) [Value.string B.name, .slice fa2 B.letters.length fc2, .slice ga2 B.small.length gc2] := by
    rw [← hW0]; have := (Box.new ((w.alloc (.cells #[Value.string R.src, .string R.dst, .slice la R.list.length lc] 24)).alloc (.cells #[Value.string A.name, .slice fa A.letters.length fc, .slice ga A.small.length gc] 28)) [Value.string B.name, .slice fa2 B.letters.length fc2, .slice ga2 B.small.length gc2] 28)
    simpa using this
  clear hW0
  have hkeep := fun wr (hbw : Below W0.heap.size W0 wr) => And.intro (hbr.below hbw (by omega)).c3 (And.intro (hba.below hbw (by omega)).c3 (hbb.below hbw (by omega)).c3)
  have Hk := Lib.hid hkeep
  clear hkeep hbr hba hbb
  refine (formed11_any R _ _ ((hR.below hw0 (Nat.le_refl _)).more hw0.size)).mono ?_
  rintro e w1 ⟨rfl, hb1⟩
  have hb1' := hw0.trans (hb1.mono hw0.size)
  by_cases hf : Formed11 R
  · rw [decide_eq_true hf]
    obtain ⟨⟨r0, r1, r2⟩, ⟨a0, a1, a2⟩, b0, b1, b2⟩ := Hk.out w1 hb1
    go_wp2_with fail
    refine (Valid10_any A _ _ ((hA.below hb1' (Nat.le_refl _)).more hb1'.size)).mono ?_
    rintro e w2 ⟨rfl, hb2⟩
    have hb2W := hb1.trans (hb2.mono hb1.size)
    have hb2' := hw0.trans (hb2W.mono hw0.size)
    clear r0 r1 r2 a0 a1 a2 b0 b1 b2
    by_cases hva : Valid10 A
    · rw [decide_eq_true hva]
      obtain ⟨⟨r0, r1, r2⟩, ⟨a0, a1, a2⟩, b0, b1, b2⟩ := Hk.out w2 hb2W
      go_wp2_with fail
      refine (Valid10_any B _ _ ((hB.below hb2' (Nat.le_refl _)).more hb2'.size)).mono ?_
      rintro e w3 ⟨rfl, hb3⟩
      have hb3W := hb2W.trans (hb3.mono hb2W.size)
      have hb3' := hw0.trans (hb3W.mono hw0.size)
      clear r0 r1 r2 a0 a1 a2 b0 b1 b2
      by_cases hvb : Valid10 B
      · rw [decide_eq_true hvb]
        obtain ⟨⟨r0, r1, r2⟩, ⟨a0, a1, a2⟩, b0, b1, b2⟩ := Hk.out w3 hb3W
        by_cases he1 : R.src = A.name
        · by_cases he2 : R.dst = B.name
          · have d1 : (R.src.toList == A.name.toList) = true := by rw [he1]; simp
            have d2 : (R.dst.toList == B.name.toList) = true := by rw [he2]; simp
            have He := Lib.hid (And.intro he1 he2)
            have hoa := hva.ok
            have hob := hvb.ok
            have HV := Lib.hid (And.intro hf (And.intro hva hvb))
            have hn1 := hf.2.2.1
            obtain ⟨b, off, rfl, hb, hc⟩ := hl.ruls (by omega)
            have hcr := fun wr (hbw : Below w.heap.size w wr) i (hi : i < R.list.length) =>
              (And.intro ((hbw.cell (p := ⟨b, off + i * 4, none⟩) hb).trans (hc i hi).1) (And.intro ((hbw.cell (p := ⟨b, off + i * 4 + 1, none⟩) hb).trans (hc i hi).2.1)
                ((hbw.cell (p := ⟨b, off + i * 4 + 2, none⟩) hb).trans (hc i hi).2.2.1)))
            have Hcr := Lib.hid hcr
            clear he1 he2 hf hva hvb hc hcr
            go_wp2_with fail
            clear r0 r1 r2 a0 a1 a2 b0 b1 b2 d1 d2
            go_loopw [7] (fun i wr => ∃ k : Nat, k ≤ R.list.length ∧ i = .int .i64 k ∧ (∀ (a : Nat) r, a < k → R.list[a]? = some r → r.lettered A B) ∧ Below W0.heap.size W0 wr) (fun i _ => R.list.length - (intOf i).toNat)
            case atStart => exact ⟨0, Nat.zero_le _, rfl, by simp, hb3W⟩
            case round =>
              obtain ⟨k, hk, rfl, hlt, hbw⟩ := hrel
              have Hlt := Lib.hid hlt
              clear hlt
              have hwr := hw0.trans (hbw.mono hw0.size)
              have hswr := hwr.size
              obtain ⟨⟨r0, r1, r2⟩, ⟨a0, a1, a2⟩, b0, b1, b2⟩ := Hk.out wr hbw
              by_cases hkl : k < R.list.length
              · obtain ⟨q1, q2, q3⟩ := hlr _ (List.getElem_mem hkl)
                obtain ⟨k0, k1, k2⟩ := Hcr.out wr hwr k hkl
                go_wp2_with fail
                go_region_held3 (fun w' => w'.cell? ⟨w.heap.size + 1, 0, none⟩ = some (.string A.name) ∧ w'.cell? ⟨w.heap.size + 1, 1, none⟩ = some (.slice fa A.letters.length fc) ∧ w'.cell? ⟨w.heap.size + 1, 2, none⟩ = some (.slice ga A.small.length gc) ∧ w'.cell? ⟨w.heap.size, 2, none⟩ = some (.slice (some ⟨b, off, none⟩) R.list.length lc) ∧ w'.cell? ⟨b, off + k * 4, none⟩ = some (.string R.list[k].src))
                  (first | exact ⟨a0, a1, a2, r2, k0⟩ | exact ⟨sa0, sa1, sa2, sr2, sk0⟩ | go_keep)
                  (first | (go_at_call 64; refine (letters11_any A hoa _ 3 q1 _ _ ((hA.below hwr.drew (Nat.le_refl _)).more hswr)).mono ?_; rintro e w4 ⟨u, rfl, hu, hb4⟩; have hbw4 := hbw.drew.trans (hb4.mono hbw.size); obtain ⟨⟨sr0, sr1, sr2⟩, ⟨sa0, sa1, sa2⟩, sb0, sb1, sb2⟩ := Hk.out w4 hbw4; obtain ⟨sk0, sk1, sk2⟩ := Hcr.out w4 (hw0.trans (hbw4.mono hw0.size)) k hkl))
                have hw4 := hw0.trans (hbw4.mono hw0.size)
                have hs4 := hw4.size
                clear r0 r1 r2 a0 a1 a2 b0 b1 b2 k0 k1 k2 hb4 sr0 sr1
                go_wp2_with fail
                go_region_held3 (fun w' => w'.cell? ⟨w.heap.size + 2, 0, none⟩ = some (.string B.name) ∧ w'.cell? ⟨w.heap.size + 2, 1, none⟩ = some (.slice fa2 B.letters.length fc2) ∧ w'.cell? ⟨w.heap.size + 2, 2, none⟩ = some (.slice ga2 B.small.length gc2) ∧ w'.cell? ⟨w.heap.size, 2, none⟩ = some (.slice (some ⟨b, off, none⟩) R.list.length lc) ∧ w'.cell? ⟨b, off + k * 4 + 1, none⟩ = some (.string R.list[k].dst))
                  (first | exact ⟨sb0, sb1, sb2, sr2, sk1⟩ | exact ⟨tb0, tb1, tb2, tr2, tk1⟩ | go_keep)
                  (first | (go_at_call 64; refine (letters11_any B hob _ 3 q2 _ _ ((hB.below hw4.drew (Nat.le_refl _)).more hs4)).mono ?_; rintro e w5 ⟨u2, rfl, hu2, hb5⟩; have hbw5 := hbw4.drew.trans (hb5.mono hbw4.size); obtain ⟨⟨tr0, tr1, tr2⟩, ⟨ta0, ta1, ta2⟩, tb0, tb1, tb2⟩ := Hk.out w5 hbw5; obtain ⟨tk0, tk1, tk2⟩ := Hcr.out w5 (hw0.trans (hbw5.mono hw0.size)) k hkl))
                have hw5 := hw0.trans (hbw5.mono hw0.size)
                have hs5 := hw5.size
                clear sr2 sa0 sa1 sa2 sb0 sb1 sb2 sk0 sk1 sk2 hb5 tr0 tr1 hbw4 hw4 hs4
                go_wp2_with fail
                go_region_held3 (fun w' => w'.cell? ⟨w.heap.size + 1, 0, none⟩ = some (.string A.name) ∧ w'.cell? ⟨w.heap.size + 1, 1, none⟩ = some (.slice fa A.letters.length fc) ∧ w'.cell? ⟨w.heap.size + 1, 2, none⟩ = some (.slice ga A.small.length gc) ∧ w'.cell? ⟨w.heap.size, 2, none⟩ = some (.slice (some ⟨b, off, none⟩) R.list.length lc) ∧ w'.cell? ⟨b, off + k * 4 + 2, none⟩ = some (.string R.list[k].nxt))
                  (first | exact ⟨ta0, ta1, ta2, tr2, tk2⟩ | exact ⟨sa0, sa1, sa2, sr2, sk2⟩ | go_keep)
                  (first | (go_at_call 64; refine (letters11_any A hoa _ 10 q3 _ _ ((hA.below hw5.drew (Nat.le_refl _)).more hs5)).mono ?_; rintro e w6 ⟨u3, rfl, hu3, hb6⟩; have hbw6 := hbw5.drew.trans (hb6.mono hbw5.size); obtain ⟨⟨sr0, sr1, sr2⟩, ⟨sa0, sa1, sa2⟩, sb0, sb1, sb2⟩ := Hk.out w6 hbw6; obtain ⟨sk0, sk1, sk2⟩ := Hcr.out w6 (hw0.trans (hbw6.mono hw0.size)) k hkl))
                have hw6 := hw0.trans (hbw6.mono hw0.size)
                clear sr0 sr1 sr2 sa0 sa1 sa2 sb0 sb1 sb2 sk0 sk1 sk2 hb6 tr2 ta0 ta1 ta2 tb0 tb1 tb2 tk0 tk1 tk2 hbw5 hw5 hs5
                by_cases p1 : LettersOk A.bls (bl R.list[k].src) 3
                · by_cases p2 : LettersOk B.bls (bl R.list[k].dst) 3
                  · by_cases p3 : LettersOk A.bls (bl R.list[k].nxt) 10
                    · have P := Lib.hid (And.intro p1 (And.intro p2 p3))
                      rw [decide_eq_true p1, decide_eq_true p2, decide_eq_true p3]
                      clear p1 p2 p3
                      go_wp2
                      refine ⟨⟨k + 1, by omega, by go_num, fun a r ha hr => ?_, hbw6⟩, by simp [intOf]; omega⟩
                      rcases Nat.lt_succ_iff_lt_or_eq.1 ha with ha | rfl
                      · exact Hlt.out a r ha hr
                      · rw [List.getElem?_eq_getElem hkl] at hr
                        obtain rfl := Option.some.inj hr
                        exact P.out
                    · rw [decide_eq_true p1, decide_eq_true p2, decide_eq_false p3]
                      go_wp2
                      go_ret
                      exact ⟨ret_no fun hv => p3 (hv.2.2.2.2.2 _ (List.getElem_mem hkl)).2.2, hw6⟩
                  · rw [decide_eq_true p1, decide_eq_false p2]
                    go_wp2
                    go_ret
                    exact ⟨ret_no fun hv => p2 (hv.2.2.2.2.2 _ (List.getElem_mem hkl)).2.1, hw6⟩
                · rw [decide_eq_false p1]
                  go_wp2
                  go_ret
                  exact ⟨ret_no fun hv => p1 (hv.2.2.2.2.2 _ (List.getElem_mem hkl)).1, hw6⟩
              · go_wp2
                go_ret
                refine ⟨ret_yes ⟨HV.out.1, HV.out.2.1, HV.out.2.2, He.out.1, He.out.2, fun r hr => ?_⟩, hwr⟩
                obtain ⟨i, hi, rfl⟩ := List.getElem_of_mem hr
                exact Hlt.out i _ (by omega) (List.getElem?_eq_getElem hi)
          · have d1 : (R.src.toList == A.name.toList) = true := by rw [he1]; simp
            have d2 : (R.dst.toList == B.name.toList) = false := by rw [← Bool.not_eq_true']; exact bytes_ne.2 he2
            have He := Lib.hid he2
            clear he1 he2
            go_wp2
            go_ret
            exact ⟨ret_no fun hv => He.out hv.2.2.2.2.1, hb3'⟩
        · have d1 : (R.src.toList == A.name.toList) = false := by rw [← Bool.not_eq_true']; exact bytes_ne.2 he1
          have He := Lib.hid he1
          clear he1
          go_wp2
          go_ret
          exact ⟨ret_no fun hv => He.out hv.2.2.2.1, hb3'⟩
      · rw [decide_eq_false hvb]
        obtain ⟨⟨r0, r1, r2⟩, ⟨a0, a1, a2⟩, b0, b1, b2⟩ := Hk.out w3 hb3W
        go_wp2
        go_ret
        exact ⟨ret_no fun hv => hvb hv.2.2.1, hb3'⟩
    · rw [decide_eq_false hva]
      obtain ⟨⟨r0, r1, r2⟩, ⟨a0, a1, a2⟩, b0, b1, b2⟩ := Hk.out w2 hb2W
      go_wp2
      go_ret
      exact ⟨ret_no fun hv => hva hv.2.1, hb2'⟩
  · rw [decide_eq_false hf]
    obtain ⟨⟨r0, r1, r2⟩, ⟨a0, a1, a2⟩, b0, b1, b2⟩ := Hk.out w1 hb1
    go_wp2
    go_ret
    exact ⟨ret_no fun hv => hf hv.1, hb1'⟩

end Go.Proofs.YtielbaaaipkbdaaGreatDoor
