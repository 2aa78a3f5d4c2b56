/- L6 · L7 · L8 -/
import Derived.Test.YtgaldlecnfekaaaGreatDoorGJ
import Derived.Lib.SmallJoins
import Derived.Laws.OwnMore
/- Walks: the lexer's next. -/
namespace Go.Proofs.YtgaldlecnfekaaaGreatDoor
open Go.RowKit Classical

theorem decFrom_digits : ∀ (l : List UInt8) (a : Nat), (∀ c ∈ l, 48 ≤ c.toNat ∧ c.toNat ≤ 57) → ∃ n, Lib.decFrom a l = some n
  | [], a, _ => ⟨a, rfl⟩
  | b :: r, a, h => by
    have hb := h b (by simp)
    unfold Lib.decFrom Lib.digitVal
    rw [if_pos hb]
    exact decFrom_digits r _ (fun c hc => h c (by simp [hc]))
theorem atoi_digits (l : List UInt8) (hne : l ≠ []) (h : ∀ c ∈ l, 48 ≤ c.toNat ∧ c.toNat ≤ 57) : ∃ n, Lib.atoi l = some n := by
  cases l with
  | nil => exact absurd rfl hne
  | cons b r =>
    have hb := h b (by simp)
    obtain ⟨n, hn⟩ := decFrom_digits (b :: r) 0 h
    have h1 : (b == 45) = false := by
      rw [beq_eq_false_iff_ne]; rintro rfl; revert hb; decide
    have h2 : (b == 43) = false := by
      rw [beq_eq_false_iff_ne]; rintro rfl; revert hb; decide
    refine ⟨(n : Int), ?_⟩
    simp only [Lib.atoi, Lib.decNat, h1, h2, hn]
    rfl

theorem classOf_digit {c : Nat} (h : classOf c = 4) : 48 ≤ c ∧ c ≤ 57 := by
  by_cases hd : 48 ≤ c ∧ c ≤ 57
  · exact hd
  · exfalso
    unfold classOf at h
    rw [if_neg hd] at h
    repeat' split at h
    all_goals omega
theorem whileF_all (l : List UInt8) (cls : List Int) (i j : Nat) (c : UInt8) (hij : i ≤ j) (hj : j < whileF l cls i) (hc : l[j]? = some c) : cls.contains (classOf c.toNat) = true := by
  obtain ⟨d, rfl⟩ : ∃ d, j = i + d := ⟨j - i, by omega⟩
  have hd : d < ((l.drop i).takeWhile fun c => cls.contains (classOf c.toNat)).length := by unfold whileF at hj; omega
  have h1 : (l.drop i)[d]? = some c := by rw [List.getElem?_drop]; exact hc
  have h2 : ((l.drop i).takeWhile fun c => cls.contains (classOf c.toNat))[d]? = some c := by
    have hp : ((l.drop i).takeWhile fun c => cls.contains (classOf c.toNat)) <+: l.drop i := List.takeWhile_prefix _
    obtain ⟨t, ht⟩ := hp
    rw [← ht, List.getElem?_append_left hd] at h1
    exact h1
  have hm := List.mem_of_getElem? h2
  have ha : (List.takeWhile (fun c : UInt8 => cls.contains (classOf c.toNat)) (l.drop i)).all (fun c => cls.contains (classOf c.toNat)) = true := List.all_takeWhile
  exact List.all_eq_true.1 ha c hm

/-- What 'next' returns at i. -/
def NextPost (s : ByteArray) (i : Nat) (kind : Int) (text : ByteArray) (en : Nat) (err : Int) : Prop :=
  (err = 0 → i < en ∧ en ≤ s.size ∧ text.size ≤ s.size) ∧
  (classAt (bl s) i = 3 → whileF (bl s) [3, 4, 5] i - i ≤ 24 → err = 0 ∧ kind = 1 ∧ text = s.extract i (whileF (bl s) [3, 4, 5] i) ∧ en = whileF (bl s) [3, 4, 5] i) ∧
  (classAt (bl s) i = 3 → 24 < whileF (bl s) [3, 4, 5] i - i → err ≠ 0) ∧
  (classAt (bl s) i ≠ 3 → kind ≠ 1)
def tokCells (kind at_ n : Int) (text : ByteArray) : List Value := [.int .i64 kind, .int .i64 at_, .int .i64 n, .string text]

theorem row_new (w1 : World) (cls : List Int) (t : TypeId) : RowAt (w1.alloc (.cells (nums cls).toArray t)) (w1.heap.size + 1) (some ⟨w1.heap.size, 0, none⟩) (nums cls) := fun _ =>
  ⟨_, 0, rfl, by omega, fun i x hx => by rw [Nat.zero_add]; exact Box.new w1 (nums cls) t i x hx⟩
theorem while_new (b : Nat) (s : ByteArray) (cls : List Int) (hcl : cls.length ≤ maxLen) (i : Nat) (hi : i ≤ s.size) (hs : s.size ≤ maxLen) (w1 : World) (h : ScanAt w1 b s) (hb : b < w1.heap.size) :
    Calls Tryz.prog 160 #[.pointer (some ⟨b, 0, none⟩), .int .i64 i, .slice (some ⟨w1.heap.size, 0, none⟩) cls.length cls.length] (w1.alloc (.cells (nums cls).toArray 3)) fun e w' => e = .returned (.int .i64 (whileF (bl s) cls i)) ∧ Below w1.heap.size w1 w' :=
  (while_any b s i cls _ _ hcl hi hs _ (h.below ((Below.refl _ _).alloc (Nat.le_refl _) _) hb) _ (row_new w1 cls 3)).mono fun e w' ⟨he, q, hq⟩ => ⟨he, by rw [hq]; exact below_drewN' ((Below.refl _ _).alloc (Nat.le_refl _) _) q⟩

theorem below4 {B k : Nat} {w w2 : World} (h : Below B w w2) (hk : B ≤ k) (x0 x1 x2 x3 : Value) : Below B w ((((w2.setCell ⟨k, 0, none⟩ x0).setCell ⟨k, 1, none⟩ x1).setCell ⟨k, 2, none⟩ x2).setCell ⟨k, 3, none⟩ x3) :=
  (((h.setCell (p := ⟨k, 0, none⟩) hk x0).setCell (p := ⟨k, 1, none⟩) hk x1).setCell (p := ⟨k, 2, none⟩) hk x2).setCell (p := ⟨k, 3, none⟩) hk x3

set_option maxRecDepth 100000 in
set_option maxHeartbeats 2000000 in
theorem next_any (b : Nat) (s : ByteArray) (i : Nat) (hi : i < s.size) (hs : s.size < 4294967281) (w : World) (h : ScanAt w b s) (hb : b < w.heap.size) :
    Calls Tryz.prog 151 #[.pointer (some ⟨b, 0, none⟩), .int .i64 i] w fun e w' =>
      (∃ kind at_ n text en err, e = .returned (.tuple #[.agg (tokCells kind at_ n text).toArray, .int .i64 (en : Nat), .int .i64 err]) ∧ NextPost s i kind text en err) ∧ Below w.heap.size w w' := by
  have hm : s.size ≤ maxLen := by unfold maxLen; omega
  go_enter Tryz.func151, Tryz.ntmps151
  obtain ⟨C, hC⟩ : ∃ C, classAt (bl s) i = C := ⟨_, rfl⟩
  have h0 : Blk (w.alloc (Obj.cells #[.int .i64 0, .int .i64 0, .int .i64 0, .string ⟨#[]⟩] 187)) w.heap.size #[.int .i64 0, .int .i64 0, .int .i64 0, .string ⟨#[]⟩] 187 := Blk.new w _ _
  have hb0 : Below w.heap.size w (w.alloc (Obj.cells #[.int .i64 0, .int .i64 0, .int .i64 0, .string ⟨#[]⟩] 187)) := (Below.refl _ _).alloc (Nat.le_refl _) _
  have hz0 : (w.alloc (Obj.cells #[.int .i64 0, .int .i64 0, .int .i64 0, .string ⟨#[]⟩] 187)).heap.size = w.heap.size + 1 := by simp
  go_wp2_with fail
  generalize hW0 : w.alloc (Obj.cells #[.int .i64 0, .int .i64 0, .int .i64 0, .string ⟨#[]⟩] 187) = W0 at h0 hb0 hz0
  clear hW0
  have hsc := h.below hb0 hb
  have ha := at_any b s i hm W0 hsc
  rw [hC] at ha
  refine ha.mono ?_
  rintro e w1 ⟨rfl, q1, hq1⟩
  have hw1 : Below W0.heap.size W0 w1 := by rw [hq1]; exact below_drewN' (Below.refl _ _) _
  clear hq1 ha
  have Hk := Lib.hid (fun (wr : World) (hbw : Below W0.heap.size W0 wr) => (show (∀ j, wr.cell? ⟨w.heap.size, j, none⟩ = (#[Value.int .i64 0, .int .i64 0, .int .i64 0, .string ⟨#[]⟩] : Array Value)[j]?) ∧ (∀ j, wr.frozen? ⟨w.heap.size, j, none⟩ = false) ∧ ScanAt wr b s ∧ Below w.heap.size w wr from
    ⟨fun j => (h0.below hbw (by omega)).cell j, fun j => (h0.below hbw (by omega)).frozen j, hsc.below hbw (by omega), hb0.trans (hbw.mono hb0.size)⟩))
  clear h0
  by_cases c3 : C = 3
  · subst c3
    go_wp2_with fail
    obtain ⟨m1, m2, m3, m4⟩ := Hk.out w1 hw1
    refine (while_new b s [3, 4, 5] (by decide) i (by omega) hm w1 m3 (by have := hw1.size; omega)).mono ?_
    rintro e w2 ⟨rfl, hw2⟩
    have hw12 := hw1.trans (hw2.mono hw1.size)
    have hge := whileF_ge (bl s) [3, 4, 5] i
    have hle := whileF_le (bl s) [3, 4, 5] i (by rw [bl_length]; omega)
    rw [bl_length] at hle
    have hlt : i < whileF (bl s) [3, 4, 5] i := by
      have hg := bl_get s i hi
      rw [whileF_step hg (by rw [classAt, hg] at hC; simp only at hC; rw [hC]; rfl)]
      exact Nat.lt_of_lt_of_le (Nat.lt_succ_self i) (whileF_ge _ _ _)
    generalize hE : whileF (bl s) [3, 4, 5] i = E at hge hle hlt
    have HE := Lib.hid hE
    clear hE m1 m2 m3 m4
    obtain ⟨m1, m2, m3, m4⟩ := Hk.out w2 hw12
    have ht := m3.text
    obtain ⟨n0, n1, n2, n3⟩ : w2.cell? ⟨w.heap.size, 0, none⟩ = some (.int .i64 0) ∧ w2.cell? ⟨w.heap.size, 1, none⟩ = some (.int .i64 0) ∧ w2.cell? ⟨w.heap.size, 2, none⟩ = some (.int .i64 0) ∧ w2.cell? ⟨w.heap.size, 3, none⟩ = some (.string ⟨#[]⟩) := ⟨m1 0, m1 1, m1 2, m1 3⟩
    have hwr : IntKind.i64.wrap ((E : Int) - (i : Int)) = (E : Int) - (i : Int) := IntWalk.i64_in _ (by omega)
    by_cases h24 : E - i ≤ 24
    · have d24 : decide ((24 : Int) < (E : Int) - (i : Int)) = false := by simp; omega
      clear m1
      go_wp2_with fail
      refine bodyPost_ret (v := .tuple #[.agg (tokCells 1 i 0 (s.extract i E)).toArray, .int .i64 (E : Nat), .int .i64 0]) (by simp [results, tokCells, Tryz.results151, go_sem, n0, n1, n2, n3]) rfl ?_
      refine ⟨⟨1, i, 0, s.extract i E, E, 0, rfl, ⟨fun _ => ⟨hlt, hle, by simp; omega⟩, fun _ _ => by rw [HE.out]; exact ⟨rfl, rfl, rfl, rfl⟩, fun _ h => ?_, fun h => absurd hC h⟩⟩, below4 m4 (Nat.le_refl _) _ _ _ _⟩
      rw [HE.out] at h; omega
    · have d24 : decide ((24 : Int) < (E : Int) - (i : Int)) = true := by simp; omega
      clear m1
      go_wp2_with fail
      refine bodyPost_ret (v := .tuple #[.agg (tokCells 0 0 0 ⟨#[]⟩).toArray, .int .i64 (0 : Nat), .int .i64 2]) (by simp [results, tokCells, Tryz.results151, go_sem, n0, n1, n2, n3]) rfl ?_
      refine ⟨⟨0, 0, 0, ⟨#[]⟩, 0, 2, rfl, ⟨fun h => absurd h (by decide), fun _ h => ?_, fun _ _ => by decide, fun h => absurd hC h⟩⟩, below4 m4 (Nat.le_refl _) _ _ _ _⟩
      rw [HE.out] at h; omega
  · have d3 : (C == 3) = false := by simpa using c3
    by_cases c4 : C = 4
    · subst c4
      go_wp2_with fail
      obtain ⟨m1, m2, m3, m4⟩ := Hk.out w1 hw1
      refine (while_new b s [4] (by decide) i (by omega) hm w1 m3 (by have := hw1.size; omega)).mono ?_
      rintro e w2 ⟨rfl, hw2⟩
      have hw12 := hw1.trans (hw2.mono hw1.size)
      have hge := whileF_ge (bl s) [4] i
      have hle := whileF_le (bl s) [4] i (by rw [bl_length]; omega)
      rw [bl_length] at hle
      have hlt : i < whileF (bl s) [4] i := by
        have hg := bl_get s i hi
        rw [whileF_step hg (by rw [classAt, hg] at hC; simp only at hC; rw [hC]; rfl)]
        exact Nat.lt_of_lt_of_le (Nat.lt_succ_self i) (whileF_ge _ _ _)
      have hall := whileF_all (bl s) [4] i
      generalize hE : whileF (bl s) [4] i = E at hge hle hlt hall
      have HE := Lib.hid hE
      have Hall := Lib.hid hall
      clear hE hall m1 m2 m3 m4
      obtain ⟨m1, m2, m3, m4⟩ := Hk.out w2 hw12
      go_wp2_with fail
      refine (at_any b s E hm w2 m3).mono ?_
      rintro e w3 ⟨rfl, q3, hq3⟩
      have hw13 : Below W0.heap.size W0 w3 := by rw [hq3]; exact below_drewN' hw12 _
      clear hq3 m1 m2 m3 m4
      obtain ⟨m1, m2, m3, m4⟩ := Hk.out w3 hw13
      obtain ⟨A, hA⟩ : ∃ A, classAt (bl s) E = A := ⟨_, rfl⟩
      rw [hA]
      clear hA
      have ht := m3.text
      obtain ⟨n0, n1, n2, n3⟩ : w3.cell? ⟨w.heap.size, 0, none⟩ = some (.int .i64 0) ∧ w3.cell? ⟨w.heap.size, 1, none⟩ = some (.int .i64 0) ∧ w3.cell? ⟨w.heap.size, 2, none⟩ = some (.int .i64 0) ∧ w3.cell? ⟨w.heap.size, 3, none⟩ = some (.string ⟨#[]⟩) := ⟨m1 0, m1 1, m1 2, m1 3⟩
      have hwr : IntKind.i64.wrap ((E : Int) - (i : Int)) = (E : Int) - (i : Int) := IntWalk.i64_in _ (by omega)
      have hN : NextPost s i 0 ⟨#[]⟩ 0 4 := ⟨fun h => absurd h (by decide), fun h => absurd (hC.symm.trans h) (by decide), fun h => absurd (hC.symm.trans h) (by decide), fun _ => by decide⟩
      by_cases h13 : E - i ≤ 13
      · have d13 : decide ((13 : Int) < (E : Int) - (i : Int)) = false := by simp; omega
        by_cases a3 : A = 3
        · subst a3
          clear m1
          go_wp2_with fail
          refine bodyPost_ret (v := .tuple #[.agg (tokCells 0 0 0 ⟨#[]⟩).toArray, .int .i64 (0 : Nat), .int .i64 4]) (by simp [results, tokCells, Tryz.results151, go_sem, n0, n1, n2, n3]) rfl ?_
          exact ⟨⟨0, 0, 0, ⟨#[]⟩, 0, 4, rfl, hN⟩, below4 m4 (Nat.le_refl _) _ _ _ _⟩
        · have e3 : (A == 3) = false := by simpa using a3
          by_cases a5 : A = 5
          · subst a5
            clear m1
            go_wp2_with fail
            refine bodyPost_ret (v := .tuple #[.agg (tokCells 0 0 0 ⟨#[]⟩).toArray, .int .i64 (0 : Nat), .int .i64 4]) (by simp [results, tokCells, Tryz.results151, go_sem, n0, n1, n2, n3]) rfl ?_
            exact ⟨⟨0, 0, 0, ⟨#[]⟩, 0, 4, rfl, hN⟩, below4 m4 (Nat.le_refl _) _ _ _ _⟩
          · have e5 : (A == 5) = false := by simpa using a5
            obtain ⟨n, hn⟩ : ∃ n, Lib.atoi (s.extract i E).data.toList = some n := by
              refine atoi_digits _ (fun e => ?_) (fun c hc => ?_)
              · have := congrArg List.length e
                rw [← Lib.size_eq] at this
                simp at this
                omega
              · obtain ⟨j, hj⟩ := List.getElem?_of_mem hc
                rw [Lib.extract_data, List.getElem?_take] at hj
                split at hj
                · rw [List.getElem?_drop] at hj
                  have := Hall.out (i + j) c (by omega) (by omega) hj
                  exact classOf_digit (by simpa using this)
                · simp at hj
            have Hn := Lib.hid hn
            clear hn m1
            go_wp2_with fail
            refine (Tryz.strconv_Atoi (s.extract i E) n (by simp; omega) Hn.out _).mono ?_
            rintro e w4 ⟨rfl, t4, hq4⟩
            have hw14 : Below W0.heap.size W0 w4 := by rw [hq4]; exact hw13.trans (Go.Joins.below_bytesWorld _ _ _ _ hw13.size)
            clear hq4 m2 m3 m4 ht n0 n1 n2 n3
            obtain ⟨m1, m2, m3, m4⟩ := Hk.out w4 hw14
            have ht := m3.text
            obtain ⟨n0, n1, n2, n3⟩ : w4.cell? ⟨w.heap.size, 0, none⟩ = some (.int .i64 0) ∧ w4.cell? ⟨w.heap.size, 1, none⟩ = some (.int .i64 0) ∧ w4.cell? ⟨w.heap.size, 2, none⟩ = some (.int .i64 0) ∧ w4.cell? ⟨w.heap.size, 3, none⟩ = some (.string ⟨#[]⟩) := ⟨m1 0, m1 1, m1 2, m1 3⟩
            clear m1
            go_wp2_with fail
            refine bodyPost_ret (v := .tuple #[.agg (tokCells 2 i n (s.extract i E)).toArray, .int .i64 (E : Nat), .int .i64 0]) (by simp [results, tokCells, Tryz.results151, go_sem, n0, n1, n2, n3]) rfl ?_
            exact ⟨⟨2, i, n, s.extract i E, E, 0, rfl, ⟨fun _ => ⟨hlt, hle, by simp; omega⟩, fun h => absurd (hC.symm.trans h) (by decide), fun h => absurd (hC.symm.trans h) (by decide), fun _ => by decide⟩⟩, below4 m4 (Nat.le_refl _) _ _ _ _⟩
      · have d13 : decide ((13 : Int) < (E : Int) - (i : Int)) = true := by simp; omega
        clear m1
        go_wp2_with fail
        refine bodyPost_ret (v := .tuple #[.agg (tokCells 0 0 0 ⟨#[]⟩).toArray, .int .i64 (0 : Nat), .int .i64 4]) (by simp [results, tokCells, Tryz.results151, go_sem, n0, n1, n2, n3]) rfl ?_
        exact ⟨⟨0, 0, 0, ⟨#[]⟩, 0, 4, rfl, hN⟩, below4 m4 (Nat.le_refl _) _ _ _ _⟩
    · have d4 : (C == 4) = false := by simpa using c4
      by_cases c6 : C = 6
      · subst c6
        obtain ⟨m1, m2, m3, m4⟩ := Hk.out w1 hw1
        have ht := m3.text
        clear m1 m2 m3 m4
        have hP : ∀ err : Int, err ≠ 0 → NextPost s i 0 ⟨#[]⟩ 0 err := fun err he => ⟨fun h => absurd h he, fun h => absurd (hC.symm.trans h) (by decide), fun h => absurd (hC.symm.trans h) (by decide), fun _ => by decide⟩
        go_wp2_with fail
        obtain ⟨rest, hrest⟩ : ∃ rest, s.extract (i + 1) s.size = rest := ⟨_, rfl⟩
        have hrs : rest.size = s.size - (i + 1) := by rw [← hrest]; simp
        rw [hrest]
        clear hrest ht
        refine (IndexAny_any rest ⟨#[34, 10]⟩ rfl (fun j hj => by
          have hj2 : j < 2 := hj
          rcases (by omega : j = 0 ∨ j = 1) with rfl | rfl
          · show (34 : UInt8).toNat < 128; decide
          · show (10 : UInt8).toNat < 128; decide) (by omega) w1).mono ?_
        rintro e w2 ⟨⟨k, hk1, hk2, rfl⟩, hw2⟩
        have hw12 := hw1.trans (hw2.mono hw1.size)
        obtain ⟨m1, m2, m3, m4⟩ := Hk.out w2 hw12
        have ht := m3.text
        obtain ⟨n0, n1, n2, n3⟩ : w2.cell? ⟨w.heap.size, 0, none⟩ = some (.int .i64 0) ∧ w2.cell? ⟨w.heap.size, 1, none⟩ = some (.int .i64 0) ∧ w2.cell? ⟨w.heap.size, 2, none⟩ = some (.int .i64 0) ∧ w2.cell? ⟨w.heap.size, 3, none⟩ = some (.string ⟨#[]⟩) := ⟨m1 0, m1 1, m1 2, m1 3⟩
        clear m1
        by_cases hk0 : k < 0
        · have e0 : decide (k < 0) = true := by simpa using hk0
          go_wp2_with fail
          refine bodyPost_ret (v := .tuple #[.agg (tokCells 0 0 0 ⟨#[]⟩).toArray, .int .i64 (0 : Nat), .int .i64 6]) (by simp [results, tokCells, Tryz.results151, go_sem, n0, n1, n2, n3]) rfl ?_
          exact ⟨⟨0, 0, 0, ⟨#[]⟩, 0, 6, rfl, hP 6 (by decide)⟩, below4 m4 (Nat.le_refl _) _ _ _ _⟩
        · obtain ⟨n, rfl⟩ : ∃ n : Nat, k = n := ⟨k.toNat, by omega⟩
          have hnr : n < rest.size := by omega
          have e0 : decide ((n : Int) < 0) = false := by simp
          obtain ⟨c, hc⟩ : ∃ c, rest[n]'hnr = c := ⟨_, rfl⟩
          by_cases hc10 : c = 10
          · have e1 : ((c.toNat : Int) == 10) = true := by rw [hc10]; rfl
            go_wp2_with fail
            refine bodyPost_ret (v := .tuple #[.agg (tokCells 0 0 0 ⟨#[]⟩).toArray, .int .i64 (0 : Nat), .int .i64 6]) (by simp [results, tokCells, Tryz.results151, go_sem, n0, n1, n2, n3]) rfl ?_
            exact ⟨⟨0, 0, 0, ⟨#[]⟩, 0, 6, rfl, hP 6 (by decide)⟩, below4 m4 (Nat.le_refl _) _ _ _ _⟩
          · have e1 : ((c.toNat : Int) == 10) = false := by
              rw [beq_eq_false_iff_ne]
              intro e
              exact hc10 (UInt8.toNat_inj.1 (by show c.toNat = 10; omega))
            by_cases h400 : n ≤ 400
            · have e2 : decide ((400 : Int) < (n : Int)) = false := by simp; omega
              go_wp2_with fail
              refine bodyPost_ret (v := .tuple #[.agg (tokCells 3 i 0 (rest.extract 0 n)).toArray, .int .i64 ((i + n + 2 : Nat) : Int), .int .i64 0]) (by simp [results, tokCells, Tryz.results151, go_sem, n0, n1, n2, n3]) rfl ?_
              exact ⟨⟨3, i, 0, rest.extract 0 n, i + n + 2, 0, rfl, ⟨fun _ => ⟨by omega, by omega, by simp; omega⟩, fun h => absurd (hC.symm.trans h) (by decide), fun h => absurd (hC.symm.trans h) (by decide), fun _ => by decide⟩⟩, below4 m4 (Nat.le_refl _) _ _ _ _⟩
            · have e2 : decide ((400 : Int) < (n : Int)) = true := by simp; omega
              go_wp2_with fail
              refine bodyPost_ret (v := .tuple #[.agg (tokCells 0 0 0 ⟨#[]⟩).toArray, .int .i64 (0 : Nat), .int .i64 2]) (by simp [results, tokCells, Tryz.results151, go_sem, n0, n1, n2, n3]) rfl ?_
              exact ⟨⟨0, 0, 0, ⟨#[]⟩, 0, 2, rfl, hP 2 (by decide)⟩, below4 m4 (Nat.le_refl _) _ _ _ _⟩
      · have d6 : (C == 6) = false := by simpa using c6
        have hP : ∀ err : Int, err ≠ 0 → NextPost s i 0 ⟨#[]⟩ 0 err := fun err he => ⟨fun h => absurd h he, fun h => absurd (hC.symm.trans h) c3, fun h => absurd (hC.symm.trans h) c3, fun _ => by decide⟩
        have hS : ∀ (t : ByteArray) (en : Nat), t.size ≤ s.size → i < en → en ≤ s.size → NextPost s i 4 t en 0 := fun t en h1 h2 h3 => ⟨fun _ => ⟨h2, h3, h1⟩, fun h => absurd (hC.symm.trans h) c3, fun h => absurd (hC.symm.trans h) c3, fun _ => by decide⟩
        obtain ⟨m1, m2, m3, m4⟩ := Hk.out w1 hw1
        have ht := m3.text
        obtain ⟨n0, n1, n2, n3⟩ : w1.cell? ⟨w.heap.size, 0, none⟩ = some (.int .i64 0) ∧ w1.cell? ⟨w.heap.size, 1, none⟩ = some (.int .i64 0) ∧ w1.cell? ⟨w.heap.size, 2, none⟩ = some (.int .i64 0) ∧ w1.cell? ⟨w.heap.size, 3, none⟩ = some (.string ⟨#[]⟩) := ⟨m1 0, m1 1, m1 2, m1 3⟩
        clear m1
        by_cases c78 : C = 7 ∨ C = 8
        · rcases c78 with rfl | rfl
          · go_wp2_with fail
            refine (Tryz.strings_HasPrefix (s.extract (i + 1) s.size) ⟨#[61]⟩ w1).mono ?_
            rintro e w2 ⟨rfl, rfl⟩
            cases hp : Lib.hasPrefix (s.extract (i + 1) s.size).data.toList (⟨#[61]⟩ : ByteArray).data.toList with
            | true =>
              have hlen : i + 2 ≤ s.size := by
                rcases Nat.lt_or_ge s.size (i + 2) with hlt | hge
                · exfalso
                  have : (s.extract (i + 1) s.size).data.toList = [] := List.length_eq_zero_iff.1 (by rw [← Lib.size_eq]; simp; omega)
                  rw [this] at hp
                  revert hp; decide
                · exact hge
              have Hp := Lib.hid hp
              clear hp
              go_wp2_with fail
              refine bodyPost_ret (v := .tuple #[.agg (tokCells 4 i 0 (s.extract i (i + 2))).toArray, .int .i64 ((i + 2 : Nat) : Int), .int .i64 0]) (by simp [results, tokCells, Tryz.results151, go_sem, n0, n1, n2, n3]) rfl ?_
              exact ⟨⟨4, i, 0, s.extract i (i + 2), i + 2, 0, rfl, hS _ _ (by simp; omega) (by omega) (by omega)⟩, below4 m4 (Nat.le_refl _) _ _ _ _⟩
            | false =>
              have Hp := Lib.hid hp
              clear hp
              go_wp2_with fail
              refine bodyPost_ret (v := .tuple #[.agg (tokCells 0 0 0 ⟨#[]⟩).toArray, .int .i64 (0 : Nat), .int .i64 3]) (by simp [results, tokCells, Tryz.results151, go_sem, n0, n1, n2, n3]) rfl ?_
              exact ⟨⟨0, 0, 0, ⟨#[]⟩, 0, 3, rfl, hP 3 (by decide)⟩, below4 m4 (Nat.le_refl _) _ _ _ _⟩
          · go_wp2_with fail
            refine (Tryz.strings_HasPrefix (s.extract (i + 1) s.size) ⟨#[61]⟩ w1).mono ?_
            rintro e w2 ⟨rfl, rfl⟩
            cases hp : Lib.hasPrefix (s.extract (i + 1) s.size).data.toList (⟨#[61]⟩ : ByteArray).data.toList with
            | true =>
              have hlen : i + 2 ≤ s.size := by
                rcases Nat.lt_or_ge s.size (i + 2) with hlt | hge
                · exfalso
                  have : (s.extract (i + 1) s.size).data.toList = [] := List.length_eq_zero_iff.1 (by rw [← Lib.size_eq]; simp; omega)
                  rw [this] at hp
                  revert hp; decide
                · exact hge
              have Hp := Lib.hid hp
              clear hp
              go_wp2_with fail
              refine bodyPost_ret (v := .tuple #[.agg (tokCells 4 i 0 (s.extract i (i + 2))).toArray, .int .i64 ((i + 2 : Nat) : Int), .int .i64 0]) (by simp [results, tokCells, Tryz.results151, go_sem, n0, n1, n2, n3]) rfl ?_
              exact ⟨⟨4, i, 0, s.extract i (i + 2), i + 2, 0, rfl, hS _ _ (by simp; omega) (by omega) (by omega)⟩, below4 m4 (Nat.le_refl _) _ _ _ _⟩
            | false =>
              have Hp := Lib.hid hp
              clear hp
              go_wp2_with fail
              refine bodyPost_ret (v := .tuple #[.agg (tokCells 4 i 0 (s.extract i (i + 1))).toArray, .int .i64 ((i + 1 : Nat) : Int), .int .i64 0]) (by simp [results, tokCells, Tryz.results151, go_sem, n0, n1, n2, n3]) rfl ?_
              exact ⟨⟨4, i, 0, s.extract i (i + 1), i + 1, 0, rfl, hS _ _ (by simp; omega) (by omega) (by omega)⟩, below4 m4 (Nat.le_refl _) _ _ _ _⟩
        · have d7 : (C == 7) = false := by simp; omega
          have d8 : (C == 8) = false := by simp; omega
          by_cases c9 : C = 9
          · subst c9
            go_wp2_with fail
            refine bodyPost_ret (v := .tuple #[.agg (tokCells 4 i 0 (s.extract i (i + 1))).toArray, .int .i64 ((i + 1 : Nat) : Int), .int .i64 0]) (by simp [results, tokCells, Tryz.results151, go_sem, n0, n1, n2, n3]) rfl ?_
            exact ⟨⟨4, i, 0, s.extract i (i + 1), i + 1, 0, rfl, hS _ _ (by simp; omega) (by omega) (by omega)⟩, below4 m4 (Nat.le_refl _) _ _ _ _⟩
          · have d9 : (C == 9) = false := by simpa using c9
            go_wp2_with fail
            refine bodyPost_ret (v := .tuple #[.agg (tokCells 0 0 0 ⟨#[]⟩).toArray, .int .i64 (0 : Nat), .int .i64 3]) (by simp [results, tokCells, Tryz.results151, go_sem, n0, n1, n2, n3]) rfl ?_
            exact ⟨⟨0, 0, 0, ⟨#[]⟩, 0, 3, rfl, hP 3 (by decide)⟩, below4 m4 (Nat.le_refl _) _ _ _ _⟩

end Go.Proofs.YtgaldlecnfekaaaGreatDoor

/- A name by the lexer's classes; plain. -/
namespace Go.Proofs.YtgaldlecnfekaaaGreatDoor
open Go.RowKit Classical

theorem classOf_letter (c : Nat) : classOf c = 3 ↔ letterB (c : Int) = true := by
  unfold letterB classOf
  constructor
  · intro h
    repeat' split at h
    all_goals first | omega | (simp; omega)
  · intro h
    simp at h
    rw [if_pos (by omega)]
theorem classOf_word (c : Nat) : [3, 4, 5].contains (classOf c) = true ↔ wordB (c : Int) = true := by
  unfold wordB letterB digitB classOf
  constructor
  · intro h
    repeat' split at h
    all_goals first | (simp; omega) | (simp at h)
  · intro h
    simp at h
    by_cases h1 : 97 ≤ c ∧ c ≤ 122 ∨ 65 ≤ c ∧ c ≤ 90
    · rw [if_pos h1]; rfl
    · rw [if_neg h1]
      by_cases h2 : 48 ≤ c ∧ c ≤ 57
      · rw [if_pos h2]; rfl
      · rw [if_neg h2, if_pos (by omega)]; rfl

theorem takeWhile_self {α : Type} (p : α → Bool) : ∀ l : List α, (∀ c ∈ l, p c = true) → l.takeWhile p = l
  | [], _ => rfl
  | a :: l, h => by rw [List.takeWhile_cons, if_pos (h a (by simp)), takeWhile_self p l (fun c hc => h c (by simp [hc]))]

/-- A name: its first byte is a letter, all are letters, digits or '_', and it has at most 24. -/
theorem name_iff (l : List UInt8) : nameB l = true ↔ classAt l 0 = 3 ∧ whileF l [3, 4, 5] 0 = l.length ∧ l.length ≤ 24 := by
  have hw : whileF l [3, 4, 5] 0 = l.length ↔ ∀ c ∈ l, wordB (c.toNat : Int) = true := by
    unfold whileF
    rw [Nat.zero_add, List.drop_zero]
    constructor
    · intro h c hc
      have he : l.takeWhile (fun c => [3, 4, 5].contains (classOf c.toNat)) = l := (List.takeWhile_prefix _).eq_of_length h
      rw [← classOf_word]
      have ha : (l.takeWhile fun c : UInt8 => [3, 4, 5].contains (classOf c.toNat)).all (fun c => [3, 4, 5].contains (classOf c.toNat)) = true := List.all_takeWhile
      rw [he] at ha
      exact List.all_eq_true.1 ha c hc
    · intro h
      congr 1
      refine takeWhile_self _ _ (fun c hc => ?_)
      rw [classOf_word]
      exact h c hc
  unfold nameB
  simp only [Bool.and_eq_true, decide_eq_true_eq, List.all_eq_true]
  rw [hw]
  cases l with
  | nil => simp [classAt]
  | cons a l =>
    have hc : classAt (a :: l) 0 = 3 ↔ letterB (a.toNat : Int) = true := classOf_letter _
    rw [hc]
    simp
    constructor
    · rintro ⟨⟨h1, h2⟩, h3⟩; exact ⟨h3, h1, h2⟩
    · rintro ⟨h3, h1, h2⟩; exact ⟨⟨h1, h2⟩, h3⟩

end Go.Proofs.YtgaldlecnfekaaaGreatDoor

/- Walk: lexer.Lex, as far as names need it. -/
namespace Go.Proofs.YtgaldlecnfekaaaGreatDoor
open Go.RowKit Classical

structure Tok where
  kind : Int
  pos : Int
  num : Int
  text : ByteArray
def Tok.cells (t : Tok) : List Value := tokCells t.kind t.pos t.num t.text
def flatT (l : List Tok) : List Value := (l.map Tok.cells).flatten
theorem flatT_snoc (l : List Tok) (t : Tok) : flatT (l ++ [t]) = flatT l ++ t.cells := by simp [flatT]
theorem flatT_length (l : List Tok) : (flatT l).length = l.length * 4 := by
  induction l with
  | nil => rfl
  | cons a l ih =>
    have : flatT (a :: l) = a.cells ++ flatT l := rfl
    rw [this, List.length_append, ih, List.length_cons]
    simp [Tok.cells, tokCells]; omega
/-- The tokens are one name: the whole text. -/
def oneName (s : ByteArray) (T : List Tok) : Prop := ∃ t, T = [t] ∧ t.kind = 1 ∧ t.text = s

/-- How far Lex has come. -/
def LexInv (s : ByteArray) (T : List Tok) (i : Nat) : Prop :=
  (T = [] ∧ (classAt (bl s) 0 ≠ 1 → classAt (bl s) 0 ≠ 2 → i = 0)) ∨ (oneName s T ∧ nameB (bl s) = true ∧ i = s.size) ∨ (T ≠ [] ∧ ¬ oneName s T ∧ nameB (bl s) = false)

theorem lex_err {s : ByteArray} {T : List Tok} {i : Nat} (h : LexInv s T i) (hi : i < s.size) {kind : Int} {text : ByteArray} {en : Nat} {err : Int} (hn : NextPost s i kind text en err) (he : err ≠ 0) : nameB (bl s) = false := by
  rcases h with ⟨_, h0⟩ | ⟨_, _, h3⟩ | ⟨_, _, h3⟩
  · rw [← Bool.not_eq_true, name_iff]
    rintro ⟨h1, h2, h3⟩
    obtain rfl := h0 (by rw [h1]; decide) (by rw [h1]; decide)
    exact he (hn.2.1 h1 (by omega)).1
  · omega
  · exact h3
theorem extract_all {s : ByteArray} {a b : Nat} (hb : b ≤ s.size) (h : s.extract a b = s) (hs : 0 < s.size) : a = 0 ∧ b = s.size := by
  have := congrArg ByteArray.size h
  simp at this
  omega
theorem lex_step {s : ByteArray} {T : List Tok} {i : Nat} (h : LexInv s T i) (hi : i < s.size) {t : Tok} {en : Nat} (hn : NextPost s i t.kind t.text en 0) :
    LexInv s (T ++ [t]) en := by
  obtain ⟨h1, h2, h3, h4⟩ := hn
  obtain ⟨hlt, hle, _⟩ := h1 rfl
  rcases h with ⟨rfl, h0⟩ | ⟨_, _, h3⟩ | ⟨hne, hno, hnb⟩
  · cases hb : nameB (bl s) with
    | true =>
      obtain ⟨c1, c2, c3⟩ := (name_iff _).1 hb
      obtain rfl := h0 (by rw [c1]; decide) (by rw [c1]; decide)
      obtain ⟨_, k1, k2, k3⟩ := h2 c1 (by omega)
      refine .inr (.inl ⟨⟨t, rfl, k1, ?_⟩, hb, by rw [k3, c2, bl_length]⟩)
      rw [k2, c2, bl_length]; simp
    | false =>
      refine .inr (.inr ⟨by simp, ?_, hb⟩)
      rintro ⟨t', e, k1, k2⟩
      obtain rfl : t = t' := by simpa using e
      have c1 : classAt (bl s) i = 3 := Classical.byContradiction fun hc => h4 hc k1
      have c2 : whileF (bl s) [3, 4, 5] i - i ≤ 24 := by
        rcases Nat.lt_or_ge 24 (whileF (bl s) [3, 4, 5] i - i) with h | h
        · exact absurd rfl (h3 c1 h)
        · exact h
      obtain ⟨_, _, k3, k4⟩ := h2 c1 c2
      obtain ⟨rfl, e2⟩ := extract_all (by have := whileF_le (bl s) [3, 4, 5] i (by rw [bl_length]; omega); rwa [bl_length] at this) (k3.symm.trans k2) (by omega)
      rw [← Bool.not_eq_true, name_iff] at hb
      exact hb ⟨c1, by rw [e2, bl_length], by rw [bl_length]; omega⟩
  · omega
  · refine .inr (.inr ⟨by simp, ?_, hnb⟩)
    rintro ⟨t', e, k1, k2⟩
    cases T with
    | nil => exact hne rfl
    | cons a r => simp at e
theorem lex_end {s : ByteArray} {T : List Tok} {i : Nat} (h : LexInv s T i) (hi : s.size ≤ i) : oneName s T ↔ nameB (bl s) = true := by
  rcases h with ⟨rfl, h0⟩ | ⟨h1, h2, _⟩ | ⟨_, h2, h3⟩
  · constructor
    · rintro ⟨t, e, _⟩; simp at e
    · intro hb
      exfalso
      obtain ⟨c1, c2, c3⟩ := (name_iff _).1 hb
      obtain rfl := h0 (by rw [c1]; decide) (by rw [c1]; decide)
      have : bl s = [] := List.length_eq_zero_iff.1 (by rw [bl_length]; omega)
      rw [this] at c1
      revert c1; decide
  · exact ⟨fun _ => h2, fun _ => h1⟩
  · exact ⟨fun h => absurd h h2, fun h => by rw [h3] at h; exact absurd h (by decide)⟩
theorem lex_gap {s : ByteArray} {T : List Tok} {i g : Nat} (h : LexInv s T i) (hT : T ≠ []) (hg : i ≤ g) (hgs : g ≤ s.size) : LexInv s T g := by
  rcases h with ⟨h1, _⟩ | ⟨h1, h2, h3⟩ | h
  · exact absurd h1 hT
  · exact .inr (.inl ⟨h1, h2, by omega⟩)
  · exact .inr (.inr h)

end Go.Proofs.YtgaldlecnfekaaaGreatDoor
