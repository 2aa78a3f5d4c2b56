/- W10b · W10c · W10d · W11 -/
import Derived.Test.YtfihjpffjdnahaaGreatDoorGI
import Derived.Laws.StructEq
/- Walks of the reference's alphabets (gazetteerref10), second part: the letters of a text. -/
namespace Go.Proofs.YtfihjpffjdnahaaGreatDoor
open Go.RowKit Classical

theorem info_int : (Tryz.prog.info? 3).map (fun i => (i.zero, i.size, i.bytes)) = some (some (.int .i64 0), 1, 8) := by kernel_rfl

end Go.Proofs.YtfihjpffjdnahaaGreatDoor

/- Walk of the reference's 'formed' on alphabets (gazetteerref10). -/
namespace Go.Proofs.YtfihjpffjdnahaaGreatDoor
open Go.RowKit Classical

def printC (c : UInt8) : Bool := decide (33 ≤ c.toNat) && decide (c.toNat ≤ 126) && (c.toNat != 34)
def printB (l : List UInt8) : Bool := l.all printC
theorem printC_yes {c : UInt8} (h1 : (33 : Int) ≤ (c.toNat : Int)) (h2 : (c.toNat : Int) ≤ 126) (h3 : ((c.toNat : Int) == 34) = false) : printC c = true := by
 simp at h3; simp [printC]; omega
theorem printC_no {c : UInt8} (h : (c.toNat : Int) < 33 ∨ (126 : Int) < (c.toNat : Int) ∨ ((c.toNat : Int) == 34) = true) : printC c = false := by
 simp at h; simp [printC]; omega

def Formed10 (A : Alph) : Prop :=
 nameB (bl A.name) = true ∧ 1 ≤ A.letters.length ∧ A.letters.length ≤ 64 ∧ A.small.length = A.letters.length ∧
 (∀ l ∈ A.letters, 1 ≤ l.size ∧ l.size ≤ 3 ∧ printB (bl l) = true) ∧ (∀ z ∈ A.small, 0 ≤ z ∧ z < A.letters.length) ∧ A.letters.Nodup ∧
 (∀ (i : Nat) z, A.small[i]? = some z → A.small[z.toNat]? = some z)

structure FormedTo (A : Alph) (k : Nat) : Prop where
 letter : ∀ (i : Nat) l, i < k → A.letters[i]? = some l → 1 ≤ l.size ∧ l.size ≤ 3 ∧ printB (bl l) = true
 small : ∀ (i : Nat) z, i < k → A.small[i]? = some z → 0 ≤ z ∧ z < A.letters.length
 apart : ∀ (i j : Nat) l, i < j → j < k → A.letters[i]? = some l → A.letters[j]? ≠ some l

set_option maxRecDepth 100000 in
set_option maxHeartbeats 1000000 in
theorem formed10_any (A : Alph) (v : Value) (w : World) (h : AlphAt w w.heap.size v A) :
  Calls Tryz.prog 55 #[v] w fun e w' => e = .returned (.bool (decide (Formed10 A))) ∧ Below w.heap.size w w' := by
 have hA := h
 obtain ⟨la, lc, sa, sc, rfl, hn, hl1, hs1, hls, hl, hsm⟩ := h
 have hn2 := hn
 unfold maxLen at hl1 hs1 hn
 go_enter Tryz.func55, Tryz.ntmps55
 by_cases hname : nameB (bl A.name) = true
 ·by_cases hlen : 1 ≤ A.letters.length ∧ A.letters.length ≤ 64 ∧ A.small.length = A.letters.length
  ·obtain ⟨hn1, hn64, hsl⟩ := hlen
   have hq : ((A.small.length : Int) != A.letters.length) = false := by simp [hsl]
   have Hsl := Lib.hid hsl; have Hname := Lib.hid hname
   clear hsl hname
   go_wp2_with (go_at_call 75; refine (Name04_any A.name _ hn2).mono ?_; rintro e w1 ⟨rfl, rfl⟩; rw [Hname.out])
   obtain ⟨W0, hW0⟩ : ∃ W0 : World, W0 = (w.alloc (.cells #[.string A.name, .slice la A.letters.length lc, .slice sa A.small.length sc] 28)) := ⟨_, rfl⟩
   rw [← hW0]
   have hw0 : Below w.heap.size w W0 := by rw [hW0]; exact (Below.refl _ _).alloc (Nat.le_refl _) _
   have hsz : W0.heap.size = w.heap.size + 1 := by rw [hW0]; simp
   obtain ⟨b, off, rfl, hb, hc⟩ := hl.strs (by omega)
   obtain ⟨b', off', rfl, hb', hc'⟩ := hsm.nums (by have := Hsl.out; omega)
   go_loopw [3] (fun i wr => ∃ k : Nat, k ≤ A.letters.length ∧ i = .int .i64 k ∧ FormedTo A k ∧ Below W0.heap.size W0 wr) (fun i _ => A.letters.length - (intOf i).toNat)
   case atStart => exact ⟨0, Nat.zero_le _, rfl, ⟨by simp, by simp, by simp⟩, Below.refl _ _⟩
   case round =>
    obtain ⟨k, hk, rfl, hto, hbw⟩ := hrel
    have hwr : Below w.heap.size w wr := hw0.trans (hbw.mono (by omega))
    have c1 : wr.cell? ⟨w.heap.size, 1, none⟩ = some (.slice (some ⟨b, off, none⟩) A.letters.length lc) := (hbw.cell (p := ⟨w.heap.size, 1, none⟩) (by simp [hsz])).trans (by rw [hW0]; simp)
    have c2 : wr.cell? ⟨w.heap.size, 2, none⟩ = some (.slice (some ⟨b', off', none⟩) A.small.length sc) := (hbw.cell (p := ⟨w.heap.size, 2, none⟩) (by simp [hsz])).trans (by rw [hW0]; simp)
    have hcl : ∀ i (hi : i < A.letters.length), wr.cell? ⟨b, off + i, none⟩ = some (.string A.letters[i]) := fun i hi => (hwr.cell (p := ⟨b, off + i, none⟩) hb).trans (hc i hi)
    have hcs : ∀ i (hi : i < A.small.length), wr.cell? ⟨b', off' + i, none⟩ = some (.int .i64 A.small[i]) := fun i hi => (hwr.cell (p := ⟨b', off' + i, none⟩) hb').trans (hc' i hi)
    have Hto := Lib.hid hto
    clear hto
    by_cases hlt : k < A.letters.length
    ·have hlt2 : k < A.small.length := by have := Hsl.out; omega
     have c3 := hcl k hlt
     have c4 := hcs k hlt2
     have Hcl := Lib.hid hcl
     clear hcl hcs
     go_wp2_with fail
     by_cases hsize : 1 ≤ A.letters[k].size ∧ A.letters[k].size ≤ 3
     ·obtain ⟨hz1, hz3⟩ := hsize
      by_cases hr : 0 ≤ A.small[k] ∧ A.small[k] < A.letters.length
      ·obtain ⟨hr0, hrn⟩ := hr
       have d1 : decide ((A.letters[k].size : Int) < 1) = false := by simp; omega
       have d2 : decide ((3 : Int) < (A.letters[k].size : Int)) = false := by simp; omega
       have d3 : decide (A.small[k] < 0) = false := by simp; omega
       have d4 : decide ((A.letters.length : Int) ≤ A.small[k]) = false := by simp; omega
       go_quiet (fail)
       go_wp2_with fail
       have Hs := Lib.hid (And.intro hr0 hrn)
       clear d1 d2 d3 d4 hr0 hrn c4
       obtain ⟨wq, hwq⟩ : ∃ wq : World, wq = wr.drewN nq := ⟨_, rfl⟩
       have c1' : wq.cell? ⟨w.heap.size, 1, none⟩ = some (.slice (some ⟨b, off, none⟩) A.letters.length lc) := by rw [hwq]; simpa using c1
       have hcq : ∀ i (hi : i < A.letters.length), wq.cell? ⟨b, off + i, none⟩ = some (.string A.letters[i]) := by rw [hwq]; simpa using Hcl.out
       have hbq : Below W0.heap.size W0 wq := hwq ▸ below_drewN hbw _
       have hwrq : Below w.heap.size w wq := hw0.trans (hbq.mono (by omega))
       have Hcq := Lib.hid hcq
       rw [← hwq]
       clear hwq c1 c2 c3 hcq Hcl hbw hwr
       go_loop [5] (fun i => ∃ j : Nat, j ≤ A.letters[k].size ∧ i = .int .i64 j ∧ ((bl A.letters[k]).take j).all printC = true) (fun i => A.letters[k].size - (intOf i).toNat)
       case atStart => exact ⟨0, Nat.zero_le _, rfl, rfl⟩
       case round =>
        obtain ⟨j, hj, rfl, hall⟩ := hrel
        have Hall := Lib.hid hall
        clear hall
        by_cases hjl : j < A.letters[k].size
        ·have hg := Lib.hid (bl_get _ j hjl)
         have hbad : printC A.letters[k][j] = false → ¬ Formed10 A := fun hp hf => by
          have := (hf.2.2.2.2.1 _ (List.getElem_mem hlt)).2.2
          rw [printB, all_false_of _ _ j _ hg.out hp] at this
          cases this
         have Hbad := Lib.hid hbad
         clear hbad
         go_wp2
         ·have h1 : (((A.letters[k][j].toNat : Int) < 33 ∨ (126 : Int) < (A.letters[k][j].toNat : Int)) ∨ ((A.letters[k][j].toNat : Int) == 34) = true) := by assumption
          go_ret
          exact ⟨ret_no (Hbad.out (printC_no (by rcases h1 with (h | h) | h <;> simp [h]))), hwrq⟩
         ·have h1 : (((33 : Int) ≤ (A.letters[k][j].toNat : Int) ∧ (A.letters[k][j].toNat : Int) ≤ 126) ∧ ((A.letters[k][j].toNat : Int) == 34) = false) := by assumption
          refine ⟨⟨j + 1, by omega, by go_num, ?_⟩, by simp [intOf]; omega⟩
          rw [all_take_succ _ _ j _ hg.out, Hall.out, printC_yes h1.1.1 h1.1.2 h1.2]; rfl
         ·have h1 : (126 : Int) < (A.letters[k][j].toNat : Int) := by assumption
          go_ret
          exact ⟨ret_no (Hbad.out (printC_no (.inr (.inl h1)))), hwrq⟩
         ·have h1 : (A.letters[k][j].toNat : Int) < 33 := by assumption
          go_ret
          exact ⟨ret_no (Hbad.out (printC_no (.inl h1))), hwrq⟩
        ·have hpr : printB (bl A.letters[k]) = true := by
          have := Hall.out
          rwa [List.take_of_length_le (by rw [bl_length]; omega)] at this
         have Hpr := Lib.hid hpr
         clear hpr Hall
         go_wp2_with fail
         go_loop [6] (fun i => ∃ m : Nat, m ≤ k ∧ i = .int .i64 m ∧ (∀ (a : Nat) l, a < m → A.letters[a]? = some l → l ≠ A.letters[k])) (fun i => k - (intOf i).toNat)
         case atStart => exact ⟨0, Nat.zero_le _, rfl, by simp⟩
         case round =>
          obtain ⟨m, hm, rfl, hap⟩ := hrel
          have Hap := Lib.hid hap
          clear hap
          by_cases hmk : m < k
          ·have hml : m < A.letters.length := by omega
           have c5 := Hcq.out m hml
           by_cases he : A.letters[m] = A.letters[k]
           ·have he2 : (A.letters[m].toList == A.letters[k].toList) = true := by rw [he]; simp
            have He := Lib.hid he
            clear he
            go_wp2
            go_ret
            refine ⟨ret_no fun hf => ?_, hwrq⟩
            exact List.pairwise_iff_getElem.1 hf.2.2.2.2.2.2.1 m k hml hlt hmk He.out
           ·have he2 : (A.letters[m].toList == A.letters[k].toList) = false := by
             rw [ByteArray.toList_eq, ByteArray.toList_eq, beq_eq_false_iff_ne]
             exact fun e => he (bl_inj e)
            have He := Lib.hid he
            clear he
            go_wp2
            refine ⟨⟨m + 1, by omega, by go_num, fun a l ha hl' => ?_⟩, by simp [intOf]; omega⟩
            rcases Nat.lt_succ_iff_lt_or_eq.1 ha with ha | rfl
            ·exact Hap.out a l ha hl'
            ·rw [List.getElem?_eq_getElem hml] at hl'
             obtain rfl := Option.some.inj hl'
             exact He.out
          ·obtain rfl : m = k := by omega
           go_wp2
           refine ⟨⟨m + 1, by omega, by go_num, ⟨fun i l hi hl' => ?_, fun i z hi hz => ?_, fun i j l hij hj hl' hl2 => ?_⟩, hbq⟩, by simp [intOf]; omega⟩
           ·rcases Nat.lt_succ_iff_lt_or_eq.1 hi with hi | rfl
            ·exact Hto.out.letter i l hi hl'
            ·rw [List.getElem?_eq_getElem hlt] at hl'
             obtain rfl := Option.some.inj hl'
             exact ⟨hz1, hz3, Hpr.out⟩
           ·rcases Nat.lt_succ_iff_lt_or_eq.1 hi with hi | rfl
            ·exact Hto.out.small i z hi hz
            ·rw [List.getElem?_eq_getElem hlt2] at hz
             obtain rfl := Option.some.inj hz
             exact Hs.out
           ·rcases Nat.lt_succ_iff_lt_or_eq.1 hj with hj | rfl
            ·exact Hto.out.apart i j l hij hj hl' hl2
            ·rw [List.getElem?_eq_getElem hlt] at hl2
             obtain rfl := Option.some.inj hl2
             exact Hap.out i _ hij hl' rfl
      ·by_cases hr0 : 0 ≤ A.small[k]
       ·have d1 : decide ((A.letters[k].size : Int) < 1) = false := decide_eq_false (by omega)
        have d2 : decide ((3 : Int) < (A.letters[k].size : Int)) = false := decide_eq_false (by omega)
        have d3 : decide (A.small[k] < 0) = false := decide_eq_false (by omega)
        have d4 : decide ((A.letters.length : Int) ≤ A.small[k]) = true := decide_eq_true (by omega)
        go_quiet (fail)
        go_wp2
        go_ret
        exact ⟨ret_no fun hf => hr (hf.2.2.2.2.2.1 _ (List.getElem_mem hlt2)), below_drewN hwr _⟩
       ·have d1 : decide ((A.letters[k].size : Int) < 1) = false := decide_eq_false (by omega)
        have d2 : decide ((3 : Int) < (A.letters[k].size : Int)) = false := decide_eq_false (by omega)
        have d3 : decide (A.small[k] < 0) = true := decide_eq_true (by omega)
        go_quiet (fail)
        go_wp2
        go_ret
        exact ⟨ret_no fun hf => hr (hf.2.2.2.2.2.1 _ (List.getElem_mem hlt2)), below_drewN hwr _⟩
     ·by_cases hz1 : 1 ≤ A.letters[k].size
      ·have d1 : decide ((A.letters[k].size : Int) < 1) = false := decide_eq_false (by omega)
       have d2 : decide ((3 : Int) < (A.letters[k].size : Int)) = true := decide_eq_true (by omega)
       go_quiet (fail)
       go_wp2
       go_ret
       exact ⟨ret_no fun hf => hsize (by have := hf.2.2.2.2.1 _ (List.getElem_mem hlt); omega), below_drewN hwr _⟩
      ·have d1 : decide ((A.letters[k].size : Int) < 1) = true := decide_eq_true (by omega)
       go_quiet (fail)
       go_wp2
       go_ret
       exact ⟨ret_no fun hf => hsize (by have := hf.2.2.2.2.1 _ (List.getElem_mem hlt); omega), below_drewN hwr _⟩
    ·obtain rfl : k = A.letters.length := by omega
     go_wp2_with fail
     have Hcs := Lib.hid hcs
     clear hcs hcl
     go_loopw [7] (fun i wx => ∃ j : Nat, j ≤ A.small.length ∧ i = .int .i64 j ∧ (∀ (a : Nat) z, a < j → A.small[a]? = some z → A.small[z.toNat]? = some z) ∧ ∃ q, wx = wr.drewN q) (fun i _ => A.small.length - (intOf i).toNat)
     case atStart => exact ⟨0, Nat.zero_le _, rfl, by simp, 0, rfl⟩
     case round =>
      obtain ⟨j, hj, rfl, hidem, q, rfl⟩ := hrel
      have Hid2 := Lib.hid hidem
      clear hidem
      by_cases hjl : j < A.small.length
      ·have hr := Hto.out.small j _ (by have := Hsl.out; omega) (List.getElem?_eq_getElem hjl)
       obtain ⟨n, hn⟩ : ∃ n : Nat, A.small[j] = (n : Int) := ⟨A.small[j].toNat, by omega⟩
       have c4 := Hcs.out j hjl
       rw [hn] at c4 hr
       have hnl : n < A.small.length := by have := Hsl.out; omega
       have c5 := Hcs.out n hnl
       have Hn := Lib.hid hn
       clear hn hr
       by_cases he : A.small[n] = (n : Int)
       ·have d1 : ((A.small[n] : Int) != (n : Int)) = false := by simp [he]
        have He := Lib.hid he
        clear he
        go_wp2_with fail
        go_quiet (fail)
        go_wp2
        refine ⟨⟨j + 1, by omega, by go_num, fun a z ha hz => ?_, q + nq, rfl⟩, by simp [intOf]; omega⟩
        rcases Nat.lt_succ_iff_lt_or_eq.1 ha with ha | rfl
        ·exact Hid2.out a z ha hz
        ·rw [List.getElem?_eq_getElem hjl, Hn.out] at hz
         obtain rfl := Option.some.inj hz
         rw [Int.toNat_natCast, List.getElem?_eq_getElem hnl, He.out]
       ·have d1 : ((A.small[n] : Int) != (n : Int)) = true := by simp [he]
        have He := Lib.hid he
        clear he
        go_wp2_with fail
        go_quiet (fail)
        go_wp2
        go_ret
        refine ⟨ret_no fun hf => ?_, by rw [World.drewN_drewN]; exact below_drewN hwr _⟩
        have h1 := hf.2.2.2.2.2.2.2 j _ (List.getElem?_eq_getElem hjl)
        rw [Hn.out, Int.toNat_natCast, List.getElem?_eq_getElem hnl] at h1
        exact He.out (Option.some.inj h1)
      ·go_wp2
       go_ret
       refine ⟨ret_yes ⟨Hname.out, hn1, hn64, Hsl.out, fun l hl' => ?_, fun z hz => ?_, ?_, fun i z hz => ?_⟩, below_drewN hwr _⟩
       ·obtain ⟨i, hi, rfl⟩ := List.getElem_of_mem hl'
        exact Hto.out.letter i _ hi (List.getElem?_eq_getElem hi)
       ·obtain ⟨i, hi, rfl⟩ := List.getElem_of_mem hz
        exact Hto.out.small i _ (by have := Hsl.out; omega) (List.getElem?_eq_getElem hi)
       ·refine List.pairwise_iff_getElem.2 fun i j' hi hj' hij e => ?_
        exact Hto.out.apart i j' _ hij hj' (List.getElem?_eq_getElem hi) (by rw [List.getElem?_eq_getElem hj', e])
       ·have := (List.getElem?_eq_some_iff.1 hz).1
        exact Hid2.out i z (by omega) hz
  ·by_cases n1 : 1 ≤ A.letters.length
   ·by_cases n64 : A.letters.length ≤ 64
    ·have hq : ((A.small.length : Int) != A.letters.length) = true := by
      simp; intro e; exact hlen ⟨n1, n64, by omega⟩
     go_wp2_with (go_at_call 75; refine (Name04_any A.name _ hn2).mono ?_; rintro e w1 ⟨rfl, rfl⟩; rw [hname])
     go_ret
     exact ⟨ret_no fun hf => hlen ⟨n1, n64, hf.2.2.2.1⟩, (Below.refl _ _).alloc (Nat.le_refl _) _⟩
    ·go_wp2_with (go_at_call 75; refine (Name04_any A.name _ hn2).mono ?_; rintro e w1 ⟨rfl, rfl⟩; rw [hname])
     go_ret
     exact ⟨ret_no fun hf => n64 hf.2.2.1, (Below.refl _ _).alloc (Nat.le_refl _) _⟩
   ·go_wp2_with (go_at_call 75; refine (Name04_any A.name _ hn2).mono ?_; rintro e w1 ⟨rfl, rfl⟩; rw [hname])
    go_ret
    exact ⟨ret_no fun hf => n1 hf.2.1, (Below.refl _ _).alloc (Nat.le_refl _) _⟩
 ·have hname' : nameB (bl A.name) = false := by simpa using hname
  have Hname := Lib.hid hname'
  clear hname'
  go_wp2_with (go_at_call 75; refine (Name04_any A.name _ hn2).mono ?_; rintro e w1 ⟨rfl, rfl⟩; rw [Hname.out])
  go_ret
  exact ⟨ret_no fun hf => hname hf.1, (Below.refl _ _).alloc (Nat.le_refl _) _⟩

end Go.Proofs.YtfihjpffjdnahaaGreatDoor

/- Walk of the reference's 'Valid' on alphabets (gazetteerref10), and what a valid alphabet gives. -/
namespace Go.Proofs.YtfihjpffjdnahaaGreatDoor
open Go.RowKit Classical

def Valid10 (A : Alph) : Prop :=
 Formed10 A ∧ ∀ (i k : Nat) l m, i ≠ k → A.letters[i]? = some l → A.letters[k]? = some m → bl m <+: bl l → ¬ Follows A.bls ((bl l).drop m.size)

theorem Formed10.pos {A : Alph} (h : Formed10 A) : ∀ l ∈ A.letters, 1 ≤ l.size := fun l hl => (h.2.2.2.2.1 l hl).1
theorem Formed10.len {A : Alph} (h : Formed10 A) : ∀ l ∈ A.bls, 1 ≤ l.length ∧ l.length ≤ 3 := fun l hl => by
 obtain ⟨m, hm, rfl⟩ := List.mem_map.1 hl
 have := h.2.2.2.2.1 m hm
 rw [bl_length]; omega
theorem Formed10.nodup {A : Alph} (h : Formed10 A) : A.bls.Nodup :=
 List.pairwise_map.2 (h.2.2.2.2.2.2.1.imp fun hne e => hne (bl_inj e))

def ValidTo (A : Alph) (n : Nat) (k : Nat) : Prop :=
 (∀ (i k : Nat) l m, i < n → i ≠ k → A.letters[i]? = some l → A.letters[k]? = some m → bl m <+: bl l → ¬ Follows A.bls ((bl l).drop m.size)) ∧
 (∀ (j : Nat) l m, j < k → n ≠ j → A.letters[n]? = some l → A.letters[j]? = some m → bl m <+: bl l → ¬ Follows A.bls ((bl l).drop m.size))

theorem ValidTo.step {A : Alph} {n k : Nat} (h : ValidTo A n k) (hk : k < A.letters.length) (hn : n < A.letters.length) (hno : n ≠ k → bl A.letters[k] <+: bl A.letters[n] → ¬ Follows A.bls ((bl A.letters[n]).drop A.letters[k].size)) :
  ValidTo A n (k + 1) := by
 refine ⟨h.1, fun j l m hj hne hl hm hp => ?_⟩
 rcases Nat.lt_succ_iff_lt_or_eq.1 hj with hj | rfl
 ·exact h.2 j l m hj hne hl hm hp
 ·rw [List.getElem?_eq_getElem hk] at hm; obtain rfl := Option.some.inj hm
  rw [List.getElem?_eq_getElem hn] at hl; obtain rfl := Option.some.inj hl
  exact hno hne hp
theorem ValidTo.next {A : Alph} {n : Nat} (h : ValidTo A n A.letters.length) : ValidTo A (n + 1) 0 := by
 refine ⟨fun i k l m hi hne hl hm hp => ?_, fun j l m hj => by omega⟩
 rcases Nat.lt_succ_iff_lt_or_eq.1 hi with hi | rfl
 ·exact h.1 i k l m hi hne hl hm hp
 ·exact h.2 k l m (List.getElem?_eq_some_iff.1 hm).1 hne hl hm hp

set_option maxRecDepth 100000 in
set_option maxHeartbeats 1000000 in
theorem Valid10_any (A : Alph) (v : Value) (w : World) (h : AlphAt w w.heap.size v A) :
  Calls Tryz.prog 33 #[v] w fun e w' => e = .returned (.bool (decide (Valid10 A))) ∧ Below w.heap.size w w' := by
 have hA := h
 obtain ⟨la, lc, sa, sc, rfl, hn, hl1, hs1, hls, hl, hsm⟩ := h
 unfold maxLen at hl1 hs1 hn
 go_enter Tryz.func33, Tryz.ntmps33
 go_wp2_with fail
 refine (formed10_any A _ _ ((hA.alloc (Nat.le_refl _) _).more (by simp))).mono ?_
 rintro e w1 ⟨rfl, hb1⟩
 have hb1' : Below w.heap.size w w1 := ((Below.refl _ _).alloc (Nat.le_refl _) _).trans (hb1.mono (by simp))
 have hs1 : w.heap.size + 1 ≤ w1.heap.size := by have := hb1.size; simpa using this
 by_cases hf : Formed10 A
 ·rw [decide_eq_true hf]
  have c0 : w1.cell? ⟨w.heap.size, 0, none⟩ = some (.string A.name) := (hb1.cell (p := ⟨w.heap.size, 0, none⟩) (by simp)).trans (by simp)
  have c1 : w1.cell? ⟨w.heap.size, 1, none⟩ = some (.slice la A.letters.length lc) := (hb1.cell (p := ⟨w.heap.size, 1, none⟩) (by simp)).trans (by simp)
  have c2 : w1.cell? ⟨w.heap.size, 2, none⟩ = some (.slice sa A.small.length sc) := (hb1.cell (p := ⟨w.heap.size, 2, none⟩) (by simp)).trans (by simp)
  clear hb1
  go_wp2_with fail
  obtain ⟨b, off, rfl, hb, hc⟩ := hl.strs (by have := hf.2.1; omega)
  have hcr := fun wr (hbw : Below w1.heap.size w1 wr) i (hi : i < A.letters.length) => (hbw.cell (p := ⟨b, off + i, none⟩) (by simp; omega)).trans ((hb1'.cell (p := ⟨b, off + i, none⟩) hb).trans (hc i hi))
  have Hcr := Lib.hid hcr
  have C := Lib.hid (And.intro c0 (And.intro c1 c2))
  have Hf := Lib.hid hf
  clear hc hcr hf c0 c1 c2
  go_loopw [3] (fun i wr => ∃ n : Nat, n ≤ A.letters.length ∧ i = .int .i64 n ∧ ValidTo A n 0 ∧ Below w1.heap.size w1 wr) (fun i _ => A.letters.length - (intOf i).toNat)
  case atStart => exact ⟨0, Nat.zero_le _, rfl, ⟨fun i k l m h => by omega, fun j l m h => by omega⟩, Below.refl _ _⟩
  case round =>
   obtain ⟨n, hn, rfl, hvt, hbw⟩ := hrel
   have Hvt := Lib.hid hvt
   have hwr : Below w.heap.size w wr := hb1'.trans (hbw.mono (by omega))
   have c1 := (hbw.cell (p := ⟨w.heap.size, 1, none⟩) (by simp; omega)).trans C.out.2.1
   by_cases hnl : n < A.letters.length
   ·go_wp2_with fail
    obtain ⟨wo, rfl⟩ : ∃ wo : World, wo = wr := ⟨_, rfl⟩
    go_loopw [4] (fun i wr => ∃ k : Nat, k ≤ A.letters.length ∧ i = .int .i64 k ∧ ValidTo A n k ∧ Below wo.heap.size wo wr) (fun i _ => A.letters.length - (intOf i).toNat)
    case atStart => exact ⟨0, Nat.zero_le _, rfl, Hvt.out, Below.refl _ _⟩
    case round =>
     obtain ⟨k, hk, rfl, hvt2, hbx⟩ := hrel
     have Hvt2 := Lib.hid hvt2
     clear hvt2
     have hbx1 : Below w1.heap.size w1 wr := hbw.trans (hbx.mono hbw.size)
     have hwx : Below w.heap.size w wr := hwr.trans (hbx.mono hwr.size)
     have hsx := hwx.size
     have c0 := (hbx1.cell (p := ⟨w.heap.size, 0, none⟩) (by simp; omega)).trans C.out.1
     have c1 := (hbx1.cell (p := ⟨w.heap.size, 1, none⟩) (by simp; omega)).trans C.out.2.1
     have c2 := (hbx1.cell (p := ⟨w.heap.size, 2, none⟩) (by simp; omega)).trans C.out.2.2
     by_cases hkl : k < A.letters.length
     ·have cn := Hcr.out wr hbx1 n hnl
      have ck := Hcr.out wr hbx1 k hkl
      go_wp2_with fail
      by_cases hnk : n = k
      ·have d1 : ((n : Int) != (k : Int)) = false := by simp [hnk]
       have Hnk := Lib.hid hnk
       clear hnk
       go_quiet (fail)
       go_wp2
       exact ⟨⟨k + 1, by omega, by go_num, Hvt2.out.step hkl hnl (fun h => absurd Hnk.out h), below_drewN hbx _⟩, by simp [intOf]; omega⟩
      ·have d1 : ((n : Int) != (k : Int)) = true := by simp; omega
       by_cases hp : bl A.letters[k] <+: bl A.letters[n]
       ·have hle : A.letters[k].size ≤ A.letters[n].size := by have := hp.length_le; rwa [bl_length, bl_length] at this
        have hmx := hls _ (List.getElem_mem hnl)
        unfold maxLen at hmx
        refine wp_region_still_tail 14 (by kernel_rfl) (by kernel_rfl) ?_
        simp only [List.take_succ_cons, List.take_zero, List.drop_succ_cons, List.drop_zero]
        repeat (first | still_step | still_call (begins10_yes _ _ hp _))
        refine wpStill_nil ?_
        change wpList _ _ _ _ _ wr.drew
        have hx2 : (A.letters[n].extract A.letters[k].size A.letters[n].size).size ≤ maxLen := by unfold maxLen; simp; omega
        have hal : AlphAt wr.drew wr.drew.heap.size (.agg #[.string A.name, .slice (some ⟨b, off, none⟩) A.letters.length lc, .slice sa A.small.length sc]) A :=
         (hA.below hwx.drew (Nat.le_refl _)).more hsx
        have Hx3 := Lib.hid (bl_extract_to A.letters[n] A.letters[k].size)
        go_wp2_with fail
        refine (follows10_any A Hf.out.pos _ _ (Nat.lt_succ_self _) hx2 _ _ hal).mono ?_
        rintro e w2 ⟨rfl, hb2⟩
        rw [Hx3.out]
        by_cases hfo : Follows A.bls ((bl A.letters[n]).drop A.letters[k].size)
        ·rw [decide_eq_true hfo]
         go_wp2
         go_ret
         exact ⟨ret_no fun hv => hv.2 n k _ _ hnk (List.getElem?_eq_getElem hnl) (List.getElem?_eq_getElem hkl) hp hfo, hwx.drew.trans (hb2.mono hsx)⟩
        ·rw [decide_eq_false hfo]
         go_wp2
         exact ⟨⟨k + 1, by omega, by go_num, Hvt2.out.step hkl hnl (fun _ _ => hfo), hbx.drew.trans (hb2.mono hbx.size)⟩, by simp [intOf]; omega⟩
       ·go_quiet ((go_at_call 56; exact Calls.quiet_of_same (begins10_no _ _ hp _)))
        go_wp2
        exact ⟨⟨k + 1, by omega, by go_num, Hvt2.out.step hkl hnl (fun _ h => absurd h hp), below_drewN hbx _⟩, by simp [intOf]; omega⟩
     ·obtain rfl : k = A.letters.length := by omega
      go_wp2
      exact ⟨⟨n + 1, by omega, by go_num, Hvt2.out.next, hbw.trans (hbx.mono hbw.size)⟩, by simp [intOf]; omega⟩
   ·go_wp2
    go_ret
    refine ⟨ret_yes ⟨Hf.out, fun i k l m hne hl hm hp => ?_⟩, hwr⟩
    have := (List.getElem?_eq_some_iff.1 hl).1
    exact Hvt.out.1 i k l m (by omega) hne hl hm hp
 ·rw [decide_eq_false hf]
  go_wp2
  go_ret
  exact ⟨ret_no fun h => hf h.1, hb1'⟩

end Go.Proofs.YtfihjpffjdnahaaGreatDoor

/- Walks of the reference's rules (gazetteerref11). -/
namespace Go.Proofs.YtfihjpffjdnahaaGreatDoor
open Go.RowKit Classical

/-- 'plain': from a to b bytes, each printable. -/
def Plain11 (s : ByteArray) (a b : Nat) : Prop := printB (bl s) = true ∧ a ≤ s.size ∧ s.size ≤ b

end Go.Proofs.YtfihjpffjdnahaaGreatDoor
