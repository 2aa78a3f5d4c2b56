/- Walks: strings.IndexRune in the two bytes '"' and newline; strings.IndexAny with them, at any text. -/
import Derived.Test.YtielbaaaipkbdaaGreatDoorGL
import Derived.Test.YtielbaaaipkbdaaGreatDoorShelf
import Derived.Deep.LoopGhost
import Derived.Laws.RangeString
import Derived.Scope
namespace Go.Proofs.YtielbaaaipkbdaaGreatDoor
open Go.RowKit Classical

theorem below_iter (w : World) (s : ByteArray) (i : Nat) : Below w.heap.size w (w.iter s i) := by
  unfold World.iter
  exact (Below.refl _ w).alloc (Nat.le_refl _) _

set_option maxRecDepth 100000 in
set_option maxHeartbeats 2000000 in
theorem IndexRune_any (s : ByteArray) (hs : s.size = 2) (hlo : ∀ i (h : i < s.size), (s[i]'h).toNat < 128) (r : Nat) (hr : r ≤ 1114111) (w : World) :
    Calls Tryz.prog 152 #[.string s, .int .i32 r] w fun e w' => (∃ k : Int, -1 ≤ k ∧ e = .returned (.int .i64 k)) ∧ Below w.heap.size w w' := by
  have hsz : 1 < s.size := by omega
  by_cases h1 : r < 128
  · refine (Tryz.strings_IndexRune_ascii s r w (by omega) (by omega)).mono ?_
    rintro e w' ⟨rfl, rfl⟩
    exact ⟨⟨_, Lib.indexByte_ge _ _, rfl⟩, Below.refl _ _⟩
  · go_enter Tryz.func152, Tryz.ntmps152
    have d1 : decide ((r : Int) < 128) = false := by simp; omega
    by_cases h2 : r = 65533
    · subst h2
      clear d1
      go_wp2_with fail
      go_loopg [5, 6] 2 (fun g _ _ wx => ∃ i : Nat, i + g = 2 ∧ wx = w.iter s i)
      case atStart => exact ⟨0, by omega, rfl⟩
      case round =>
        obtain ⟨i, hig, rfl⟩ := hrel
        cases gk with
        | zero =>
          obtain rfl : i = 2 := by omega
          have hnx := run_next_end (P := Tryz.prog) w s 2
          go_wp2
          go_ret
          exact ⟨⟨-1, by omega, rfl⟩, below_iter w _ _⟩
        | succ g =>
          have hi : i < 2 := by omega
          have hnx := fun ty => run_next_ascii (P := Tryz.prog) w s i ty (by omega) (hlo i (by omega))
          have d2 : (((s[i]'(by omega)).toNat : Int) == 65533) = false := by
            have := hlo i (by omega)
            simp; omega
          go_wp2
          go_roundg g
          case measure => omega
          case rel => exact ⟨i + 1, by omega, rfl⟩
    · have d2 : ((r : Int) == 65533) = false := by simpa using (by omega : ¬ (r : Int) = 65533)
      cases hv : Lib.validRune r with
      | false =>
        go_wp2_with (go_at_call 163; refine (Tryz.utf8_ValidRune r _).mono ?_; rintro e w1 ⟨rfl, rfl⟩)
        go_ret
        exact ⟨⟨-1, by omega, rfl⟩, Below.refl _ _⟩
      | true =>
        have hv2 : Utf8.valid r = true := by
          unfold Lib.validRune at hv
          unfold Utf8.valid
          simp at hv ⊢
          omega
        obtain ⟨k2, k4, kb⟩ := encode_facts r hv2 (by omega)
        have hcv : ∀ w1, (convert 21 9 (.int .i32 (r : Int))).run Tryz.prog w1 = .ok (.string (Utf8.encode (r : Int))) w1 := fun w1 => run_convert_int_string w1 21 9 .i32 _ rfl rfl
        generalize hE : Utf8.encode (r : Int) = E at k2 k4 kb hcv
        have HE := Lib.hid hE
        clear hE
        go_wp2_with (first | (go_at_call 163; refine (Tryz.utf8_ValidRune r _).mono ?_; rintro e w1 ⟨rfl, rfl⟩) | fail)
        go_wp2_with fail
        refine wp_scope_straight ?_
        obtain ⟨m, hm⟩ : ∃ m, E.size = m + 2 := ⟨E.size - 2, by omega⟩
        go_wp2_with fail
        go_loop [9] (fun i => i = .int .i64 ((m : Int) + 1)) (fun _ => 0)
        case atStart => go_num
        case round =>
          subst hrel
          by_cases hm0 : m = 0
          · subst hm0
            have hm2 : E.size = 2 := by omega
            have kb2 := Lib.hid kb
            clear kb k2 k4 d1 d2 hm
            obtain ⟨e1, he1⟩ : ∃ e1 : UInt8, E[1]'(by omega) = e1 := ⟨_, rfl⟩
            have hb1 : 128 ≤ e1.toNat := by
              have := kb2.out (by omega)
              simp only [hm2] at this
              rw [← he1]
              exact this
            obtain ⟨e2, he2⟩ : ∃ e2 : UInt8, s[1]'(by omega) = e2 := ⟨_, rfl⟩
            have d4 : ((e2.toNat : Int) != (e1.toNat : Int)) = true := by
              have := hlo 1 (by omega)
              rw [he2] at this
              simp; omega
            have cE : ∀ (c : UInt8) w, Calls Tryz.prog 144 #[.string ByteArray.empty, .int .u8 c.toNat] w fun e w' => e = .returned (.int .i64 (-1)) ∧ w' = w := fun c w => Tryz.strings_IndexByte ByteArray.empty c.toNat w
            have hw2 : IntKind.i64.wrap 2 = 2 := rfl
            clear hlo
            go_wp2_with fail
            refine wp_scope_straight ?_
            go_wp2_with fail
            go_quiet (fail)
            go_wp2_with fail
            go_quiet ((go_at_call 144; exact (cE _ _).mono (fun e w2 h => ⟨h.1, _, h.2⟩)))
            go_wp2_with fail
            simp +zetaDelta only [Exit.noGoto, Exit.inBlock, Exit.then]
            go_ret
            exact ⟨⟨-1, by omega, rfl⟩, below_drewN' (Below.refl _ _) _⟩
          · have d3 : decide ((m : Int) + 1 < 2) = false := by simp; omega
            go_wp2
            go_ret
            exact ⟨⟨-1, by omega, rfl⟩, Below.refl _ _⟩

theorem indexAny_lt (c : List UInt8) : ∀ l : List UInt8, Lib.indexAny l c < l.length
  | [] => by simp [Lib.indexAny]
  | b :: l => by
    have := indexAny_lt c l
    unfold Lib.indexAny
    split
    · simp
    · split
      · simp; omega
      · simp; omega

set_option maxRecDepth 100000 in
set_option maxHeartbeats 2000000 in
theorem IndexAny_any (s c : ByteArray) (hc : c.size = 2) (hlo : ∀ i (h : i < c.size), (c[i]'h).toNat < 128) (hs : s.size < 4294967281) (w : World) :
    Calls Tryz.prog 146 #[.string s, .string c] w fun e w' => (∃ k : Int, -1 ≤ k ∧ k < s.size ∧ e = .returned (.int .i64 k)) ∧ Below w.heap.size w w' := by
  have hlo2 : ∀ (j : Nat) b, c.data.toList[j]? = some b → b.toNat < 128 := fun j b hj => by
    obtain ⟨h1, h2⟩ := List.getElem?_eq_some_iff.1 hj
    rw [← h2]
    exact hlo j (by simpa [← ByteArray.size_data] using h1)
  by_cases h8 : 8 < s.size
  · refine (Tryz.strings_IndexAny_long (fun w => rfl) s c w (by omega) h8 hs (by omega) hlo2).mono ?_
    rintro e w' ⟨rfl, rfl⟩
    refine ⟨⟨_, Lib.indexAny_ge _ _, ?_, rfl⟩, ((Below.refl _ _).alloc (Nat.le_refl _) _).alloc (by simp) _⟩
    rw [Lib.size_eq]
    exact indexAny_lt _ _
  · clear hlo2
    have hemp : c.toList.isEmpty = false := by
      rw [Lib.toList_data]
      cases h : c.data.toList with
      | nil => have := Lib.size_eq c; rw [h, List.length_nil] at this; omega
      | cons _ _ => rfl
    have hn1 : ((c.size : Int) == 1) = false := by rw [hc]; rfl
    have h8z : decide ((8 : Int) < (s.size : Int)) = false := decide_eq_false (by omega)
    go_enter Tryz.func146, Tryz.ntmps146
    go_wp2_with (go_at_call 153; refine (Tryz.strings_shouldUseASCIISet _ _).mono ?_; rintro e w' ⟨rfl, hw⟩; rw [hw, h8z])
    go_loopg [9, 10] s.size (fun gf _ _ wx => ∃ pos : Nat, wx.heap[w.heap.size]? = some (.stringIter s pos) ∧ Below w.heap.size w wx ∧ s.size ≤ pos + gf)
    case atStart => exact ⟨0, World.iter_heap w s 0, (Below.refl _ w).alloc (Nat.le_refl _) _, by omega⟩
    case round =>
      obtain ⟨pos, hit, hbw, hfu⟩ := hrel
      by_cases hps : pos < s.size
      · obtain ⟨g', rfl⟩ : ∃ g', gk = g' + 1 := ⟨gk - 1, by omega⟩
        have hnx : ∀ ty, (Instr.next (.pointer (some ⟨w.heap.size, 0, none⟩)) true ty).run Tryz.prog wr = _ := fun ty => Lib.run_next_any_at wr w.heap.size s pos ty hit hps
        have hwd := Lib.width_pos s pos
        have hrl := Lib.rune_le s pos
        obtain ⟨R, hR⟩ : ∃ R, (Utf8.decode s pos).1 = R := ⟨_, rfl⟩
        obtain ⟨K, hK⟩ : ∃ K, (Utf8.decode s pos).2 = K := ⟨_, rfl⟩
        rw [hR, hK] at hnx
        rw [hK] at hwd
        rw [hR] at hrl
        have hit2 := Lib.iterAt_heap wr w.heap.size s pos (pos + K) hit
        have hbw2 := Lib.below_iterAt hbw (k := w.heap.size) (Nat.le_refl _) s (pos + K)
        obtain ⟨W, hWd⟩ : ∃ W, wr.iterAt w.heap.size s (pos + K) = W := ⟨_, rfl⟩
        rw [hWd] at hnx hit2 hbw2
        have cS := IndexRune_any c hc hlo R hrl W
        go_wp2_with (go_at_call 152; refine cS.mono ?_; rintro e W' ⟨⟨k, hk, rfl⟩, hbk⟩)
        · go_ret
          exact ⟨⟨(pos : Int), by omega, by omega, rfl⟩, hbw2.trans (hbk.mono hbw2.size)⟩
        · go_roundg g'
          case measure => omega
          case rel => exact ⟨pos + K, (hbk.block w.heap.size (Array.getElem?_eq_some_iff.1 hit2).1).trans hit2, hbw2.trans (hbk.mono hbw2.size), by omega⟩
      · have hnx : ∀ ty, (Instr.next (.pointer (some ⟨w.heap.size, 0, none⟩)) true ty).run Tryz.prog wr = _ := fun ty => Lib.run_next_end_at wr w.heap.size s pos ty hit hps
        go_wp2
        go_ret
        exact ⟨⟨-1, by omega, by omega, rfl⟩, hbw⟩
end Go.Proofs.YtielbaaaipkbdaaGreatDoor
