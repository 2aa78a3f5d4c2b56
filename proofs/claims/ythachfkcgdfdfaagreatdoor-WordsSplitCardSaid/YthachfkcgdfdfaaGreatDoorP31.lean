/- RF -/
import Derived.Test.YthachfkcgdfdfaaGreatDoorP30
/- Walk: the law WordsSplit. -/
namespace Go.Proofs.YthachfkcgdfdfaaGreatDoor
open Go.RowKit Go.Shelf Classical

theorem replicate_snoc (k : Nat) : List.replicate (k + 1) (32 : UInt8) ++ [32] = List.replicate (k + 1 + 1) 32 := by
 rw [← List.replicate_succ']
theorem map_bl_inj : ∀ {a b : List ByteArray}, a.map bl = b.map bl → a = b
 | [], [], _ => rfl
 | [], _ :: _, h => by simp at h
 | _ :: _, [], h => by simp at h
 | x :: xs, y :: ys, h => by
  rw [List.map_cons, List.map_cons, List.cons.injEq] at h
  rw [bl_inj h.1, map_bl_inj h.2]
theorem len_flatten : ∀ {L : List (List UInt8)} {p : List UInt8}, p ∈ L → p.length ≤ L.flatten.length
 | q :: L, p, h => by
  rw [List.flatten_cons, List.length_append]
  rcases List.mem_cons.1 h with rfl | h
  ·omega
  ·have := len_flatten h; omega
set_option maxRecDepth 100000 in
set_option maxHeartbeats 2000000 in
theorem split_law (s : ByteArray) (r : Int) (w : World) (hs : s.size ≤ maxLen) (hr : 0 ≤ r ∧ r < 256) :
  Calls Tryz.prog 4 #[.string s, .int .u8 r] w fun e w' => e = .returned (.bool true) ∧ Below w.heap.size w w' := by
 unfold maxLen at hs
 go_enter Tryz.func4, Tryz.ntmps4
 by_cases h450 : 450 < s.size
 ·go_wp2_with (go_at_call 9; refine (head17_any w).mono ?_; rintro e w1 ⟨rfl, hb1⟩)
  go_ret
  exact ⟨rfl, hb1⟩
 go_upto_region 4 with (go_at_call 9; refine (head17_any w).mono ?_; rintro e w1 ⟨rfl, hb1⟩)
 go_wp2_with (go_at_call 19; refine (Split_any s (by omega) w1).mono ?_; rintro e w2 ⟨v, l, rfl, hl, hol, hb2⟩; obtain ⟨la, lc, rfl, -, hrl⟩ := RowAt.of_own hol)
 have H2 := Lib.hid (And.intro hl (And.intro hrl (hb1.trans (hb2.mono hb1.size))))
 clear hl hrl hol hb2 hb1
 obtain ⟨m, hm, hm3⟩ : ∃ m : Nat, Int.tmod r 4 = (m : Int) ∧ m ≤ 3 := ⟨(r % 4).toNat, by rw [Int.tmod_eq_emod_of_nonneg hr.1]; omega, by omega⟩
 have hwr : IntKind.i64.wrap r = r := IntWalk.i64_in _ (by omega)
 have hz1 : ((⟨#[32]⟩ : ByteArray)).size = 1 := rfl
 go_loop [7, 8] (fun g i => ∃ (k : Nat) (t : ByteArray), k ≤ m ∧ g = .string t ∧ i = .int .i64 k ∧ bl t = List.replicate (k + 1) 32) (fun _ i => 4 - (intOf i).toNat)
 case atStart => exact ⟨0, _, Nat.zero_le _, rfl, rfl, rfl⟩
 case round =>
  obtain ⟨k, t, hk, rfl, rfl, ht⟩ := hrel
  have hts : t.size = k + 1 := by rw [← bl_length, ht, List.length_replicate]
  have Ht := Lib.hid ht
  clear ht
  by_cases hkm : k < m
  ·have hadd : ∀ W, (Op.stringOp .add t ⟨#[32]⟩).run Tryz.prog W = .ok (.string (t ++ ⟨#[32]⟩)) W := fun W => run_string_add_sum W _ _ (by omega)
   have Hn := Lib.hid (show bl (t ++ ⟨#[32]⟩) = List.replicate (k + 1 + 1) 32 by rw [bl_add, Ht.out]; exact replicate_snoc k)
   clear hts
   go_wp2
   exact ⟨⟨k + 1, _, by omega, rfl, by go_num, Hn.out⟩, by simp [intOf]; omega⟩
  ·obtain rfl : m = k := by omega
   have Hts := Lib.hid hts
   have hokl : ∀ p ∈ l.map bl, p ≠ [] ∧ 32 ∉ p := fun p hp => wordsOf_ok (by rw [← H2.out.1]; exact hp)
   have htot : (l.map bl).flatten.length ≤ 450 := by rw [H2.out.1]; exact Nat.le_trans (wordsOf_total _) (by rw [bl_length]; omega)
   have hlen : l.length ≤ 450 := by have := wordsOf_few (bl s); rw [← H2.out.1, List.length_map, bl_length] at this; omega
   have Hok := Lib.hid (And.intro hokl htot)
   clear hokl htot hts
   go_wp2_with fail
   clear hm hwr
   go_loop [9, 10, 12] (fun a b i => ∃ (k : Nat) (ta tb : ByteArray), k ≤ l.length ∧ a = .string ta ∧ b = .string tb ∧ i = .int .i64 k ∧ bl ta = againL (m + 1) ((l.map bl).take k) ∧ bl tb = ((l.map bl).take k).flatten) (fun _ _ i => l.length - (intOf i).toNat)
   case atStart => exact ⟨0, _, _, Nat.zero_le _, rfl, rfl, rfl, by rw [Ht.out]; simp [againL], rfl⟩
   case round =>
    obtain ⟨k, ta, tb, hk, rfl, rfl, rfl, hta, htb⟩ := hrel
    have Hk := Lib.hid (And.intro hta htb)
    clear hta htb
    by_cases hkl : k < l.length
    ·obtain ⟨g, o, rfl, hg, hc⟩ := H2.out.2.1.strs (by omega)
     have x0 := hc k hkl
     obtain ⟨x, hx⟩ : ∃ x, l[k] = x := ⟨_, rfl⟩
     rw [hx] at x0
     have hgx : (l.map bl)[k]? = some (bl x) := by rw [List.getElem?_map, List.getElem?_eq_getElem hkl, hx]; rfl
     have hox := Hok.out.1 (bl x) (List.mem_of_getElem? hgx)
     have hxs : x.size ≤ 450 := by
      have h1 := Hok.out.2
      have h2 : (bl x).length ≤ (l.map bl).flatten.length := by
       exact len_flatten (List.mem_of_getElem? hgx)
      rw [bl_length] at h2; omega
     have hx0 : 0 < x.size := by rw [← bl_length]; exact List.length_pos_iff.2 hox.1
     have htk : (l.map bl).take (k + 1) = (l.map bl).take k ++ [bl x] := by rw [List.take_add_one, hgx]; rfl
     have hpre : ((l.map bl).take k).flatten.length ≤ 450 := Nat.le_trans (flatten_len_le _ _ (List.take_prefix _ _)) Hok.out.2
     have hsa : ta.size ≤ 4 + 450 + 450 * 4 := by
      have h1 := againL_len (m + 1) ((l.map bl).take k)
      rw [← Hk.out.1, bl_length, List.length_take, List.length_map] at h1
      have h2 : min k l.length * (m + 1) ≤ 450 * 4 := Nat.mul_le_mul (by omega) (by omega)
      omega
     have hsb : tb.size ≤ 450 := by rw [← bl_length, Hk.out.2]; exact hpre
     have HN := Lib.hid (show bl (ta ++ x ++ t) = againL (m + 1) ((l.map bl).take (k + 1)) ∧ bl (tb ++ x) = ((l.map bl).take (k + 1)).flatten from by
      rw [htk, againL_snoc, bl_add, bl_add, bl_add, Hk.out.1, Hk.out.2, Ht.out, List.flatten_append]
      exact ⟨rfl, by simp⟩)
     have hgs : t.size ≤ 4 := by rw [Hts.out]; omega
     have hz2 := size_add ta x
     have hadd1 : ∀ W, (Op.stringOp .add ta x).run Tryz.prog W = .ok (.string (ta ++ x)) W := fun W => run_string_add_sum W _ _ (by omega)
     have hadd2 : ∀ W, (Op.stringOp .add (ta ++ x) t).run Tryz.prog W = .ok (.string (ta ++ x ++ t)) W := fun W => run_string_add_sum W _ _ (by omega)
     have hadd3 : ∀ W, (Op.stringOp .add tb x).run Tryz.prog W = .ok (.string (tb ++ x)) W := fun W => run_string_add_sum W _ _ (by omega)
     have d1 : x.toList.isEmpty = false := by
      rw [ByteArray.toList_eq]
      have h1 : x.data.toList ≠ [] := hox.1
      cases hq : x.data.toList with
      | nil => exact absurd hq h1
      | cons _ _ => rfl
     have Hno := Lib.hid hox.2
     clear hc hx hgx hox htk hpre hsa hsb hz2 hgs
     go_wp2_with fail
     go_loop [13] (fun i => ∃ j : Nat, j ≤ x.size ∧ i = .int .i64 j) (fun i => x.size - (intOf i).toNat)
     case atStart => exact ⟨0, Nat.zero_le _, rfl⟩
     case round =>
      obtain ⟨j, hj, rfl⟩ := hrel
      by_cases hjl : j < x.size
      ·have d2 : ((x[j].toNat : Int) == 32) = false := by
        rw [beq_eq_false_iff_ne]
        intro e
        refine Hno.out ?_
        have h1 := List.mem_of_getElem? (bl_get x j hjl)
        have h2 : x[j] = 32 := by
         apply UInt8.toNat_inj.1
         show x[j].toNat = 32
         omega
        rwa [h2] at h1
       go_wp2
       exact ⟨⟨j + 1, by omega, by go_num⟩, by simp [intOf]; omega⟩
      ·obtain rfl : j = x.size := by omega
       go_wp2
       exact ⟨⟨k + 1, _, _, by omega, rfl, rfl, by go_num, HN.out.1, HN.out.2⟩, by simp [intOf]; omega⟩
    ·obtain rfl : k = l.length := by omega
     have HE := Lib.hid (show bl ta = againL (m + 1) (l.map bl) ∧ bl tb = (l.map bl).flatten from by
      have h1 := Hk.out
      rw [List.take_of_length_le (by rw [List.length_map]; exact Nat.le_refl _)] at h1
      exact h1)
     clear Hk
     go_wp2_with fail
     go_loop [11, 14] (fun c i => ∃ (j : Nat) (tc : ByteArray), j ≤ s.size ∧ c = .string tc ∧ i = .int .i64 j ∧ bl tc = ((bl s).take j).filter (fun c => c != 32)) (fun _ i => s.size - (intOf i).toNat)
     case atStart => exact ⟨0, _, Nat.zero_le _, rfl, rfl, rfl⟩
     case round =>
      obtain ⟨j, tc, hj, rfl, rfl, htc⟩ := hrel
      have Htc := Lib.hid htc
      clear htc
      by_cases hjl : j < s.size
      ·have hget := bl_get s j hjl
       have htk : (bl s).take (j + 1) = (bl s).take j ++ [s[j]] := by rw [List.take_add_one, hget]; rfl
       have hsc : tc.size ≤ 450 := by
        have h1 := List.length_filter_le (fun c => c != (32 : UInt8)) ((bl s).take j)
        rw [← Htc.out, bl_length, List.length_take, bl_length] at h1
        omega
       by_cases h32 : s[j] = 32
       ·have d2 : ((s[j].toNat : Int) != 32) = false := by rw [h32]; rfl
        have HN := Lib.hid (show bl tc = ((bl s).take (j + 1)).filter (fun c => c != 32) from by rw [htk, List.filter_append, ← Htc.out, h32]; simp)
        clear hget htk hsc h32
        go_wp2
        exact ⟨⟨j + 1, _, by omega, rfl, by go_num, HN.out⟩, by simp [intOf]; omega⟩
       ·have d2 : ((s[j].toNat : Int) != 32) = true := by
         simp only [bne_iff_ne, ne_eq]
         intro e
         refine h32 (UInt8.toNat_inj.1 ?_)
         show s[j].toNat = 32
         omega
        obtain ⟨y, hy⟩ : ∃ y, s.extract j (j + 1) = y := ⟨_, rfl⟩
        have hby : bl y = [s[j]] := by
         rw [← hy]
         unfold bl
         rw [ByteArray.data_extract, Array.toList_extract, List.extract_eq_take_drop, List.drop_eq_getElem_cons (by show j < s.data.toList.length; exact hjl)]
         simp
         rfl
        have hys : y.size = 1 := by rw [← bl_length, hby]; rfl
        have hadd : ∀ W, (Op.stringOp .add tc y).run Tryz.prog W = .ok (.string (tc ++ y)) W := fun W => run_string_add_sum W _ _ (by omega)
        have HN := Lib.hid (show bl (tc ++ y) = ((bl s).take (j + 1)).filter (fun c => c != 32) from by rw [htk, List.filter_append, ← Htc.out, bl_add, hby]; simp [h32])
        have hwj : IntKind.i64.wrap ((j : Int) + 1) = (j : Int) + 1 := IntWalk.i64_in _ (by omega)
        have hq1 : 0 ≤ (j : Int) + 1 ∧ (j : Int) + 1 ≤ (s.size : Int) := by omega
        have hq2 : (j : Int) ≤ (j : Int) + 1 := by omega
        clear hget htk hsc h32 hby hys
        go_wp2
        exact ⟨⟨j + 1, _, by omega, rfl, by go_num, HN.out⟩, by simp [intOf]; omega⟩
      ·obtain rfl : j = s.size := by omega
       have hbc : tb = tc := by
        refine bl_inj ?_
        have h1 := Htc.out
        rw [List.take_of_length_le (by rw [bl_length]; exact Nat.le_refl _)] at h1
        rw [HE.out.2, h1, H2.out.1, wordsOf_flat]
       have d3 : (tb.toList == tc.toList) = true := by rw [hbc]; simp
       have hsa : ta.size ≤ 4 + 450 + 450 * 4 := by
        have h1 := againL_len (m + 1) (l.map bl)
        rw [← HE.out.1, bl_length, List.length_map] at h1
        have h2 : l.length * (m + 1) ≤ 450 * 4 := Nat.mul_le_mul (by omega) (by omega)
        have h3 := Hok.out.2
        omega
       have HW := Lib.hid (show wordsOf (bl ta) = l.map bl from by rw [HE.out.1]; exact againL_words (by omega) Hok.out.1)
       clear hbc
       go_wp2_with fail
       refine (Split_any ta (by omega) w2).mono ?_
       rintro e w3 ⟨v, ys, rfl, hys, hoy, hb3⟩
       obtain rfl : ys = l := by
        rw [HW.out] at hys
        exact map_bl_inj hys
       obtain ⟨ya, yc, rfl, -, hry⟩ := RowAt.of_own hoy
       have hrl := (H2.out.2.1.below hb3 (Nat.le_refl _)).more hb3.size
       have hbF := H2.out.2.2.trans (hb3.mono H2.out.2.2.size)
       have HT := Lib.hid (Texts17_q ys ys ya la yc lc w3.heap.size (by unfold maxLen; omega) w3 hry hrl)
       rw [decide_eq_true (rfl : ys = ys)] at HT
       clear hys hoy hb3 hry hrl
       go_wp2_with fail
       refine HT.out.mono ?_
       rintro e w4 ⟨rfl, q, hw4⟩
       have Hw4 := Lib.hid hw4
       clear hw4
       go_wp2_with fail
       go_ret
       exact ⟨rfl, by rw [Hw4.out]; exact Go.below_drewN hbF _⟩
end Go.Proofs.YthachfkcgdfdfaaGreatDoor
