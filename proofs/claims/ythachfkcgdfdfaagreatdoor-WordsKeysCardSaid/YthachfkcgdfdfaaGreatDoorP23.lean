/- UD · UG -/
import Derived.Test.YthachfkcgdfdfaaGreatDoorP21
/- Plain words: names: their words, and their keys. No program in sight. -/
namespace Go.Proofs.YthachfkcgdfdfaaGreatDoor
open Go Classical

/-- The parts of a text between blanks, empty ones too. -/
def partsGo : List UInt8 → List UInt8 → List (List UInt8)
 | [], cur => [cur]
 | c :: t, cur => if c = 32 then cur :: partsGo t [] else partsGo t (cur ++ [c])
def partsOf (t : List UInt8) : List (List UInt8) := partsGo t []
theorem wordsGo_parts : ∀ (t cur : List UInt8), wordsGo t cur = (partsGo t cur).filter (fun p => decide (p ≠ []))
 | [], cur => by
  rw [wordsGo, partsGo]
  by_cases h : cur = [] <;> simp [h]
 | c :: t, cur => by
  rw [wordsGo, partsGo]
  by_cases hc : c = 32
  ·rw [if_pos hc, if_pos hc, wordsGo_parts t []]
   by_cases h : cur = []
   ·simp [h]
   ·rw [if_neg h, List.filter_cons_of_pos (by simpa using h)]
  ·rw [if_neg hc, if_neg hc, wordsGo_parts t _]
theorem wordsOf_parts (t : List UInt8) : wordsOf t = (partsOf t).filter (fun p => decide (p ≠ [])) := wordsGo_parts t []
theorem partsGo_ne (t cur : List UInt8) : partsGo t cur ≠ [] := by
 induction t generalizing cur with
 | nil => simp [partsGo]
 | cons c t ih =>
  rw [partsGo]
  split
  ·simp
  ·exact ih _
/-- Texts with one blank between any two. -/
def joinB : List (List UInt8) → List UInt8
 | [] => []
 | [p] => p
 | p :: q :: l => p ++ 32 :: joinB (q :: l)
theorem joinB_cons (p : List UInt8) {l : List (List UInt8)} (h : l ≠ []) : joinB (p :: l) = p ++ 32 :: joinB l := by
 cases l with
 | nil => exact absurd rfl h
 | cons q l => rfl
theorem partsGo_word : ∀ (w t cur : List UInt8), 32 ∉ w → partsGo (w ++ t) cur = partsGo t (cur ++ w)
 | [], t, cur, _ => by simp
 | c :: w, t, cur, h => by
  have hc : c ≠ 32 := fun e => h (by rw [e]; exact List.mem_cons_self ..)
  rw [List.cons_append, partsGo, if_neg hc, partsGo_word w t (cur ++ [c]) (fun q => h (List.mem_cons_of_mem _ q)), List.append_assoc]
  rfl
theorem joinGo_parts : ∀ (t cur : List UInt8), joinB (partsGo t cur) = cur ++ t
 | [], cur => by simp [partsGo, joinB]
 | c :: t, cur => by
  rw [partsGo]
  split
  ·rename_i h
   rw [joinB_cons _ (partsGo_ne t []), joinGo_parts t [], h, List.nil_append]
  ·rw [joinGo_parts t _, List.append_assoc]; rfl
theorem join_parts (t : List UInt8) : joinB (partsOf t) = t := joinGo_parts t []
theorem joinB_len : ∀ (l : List (List UInt8)) (n : Nat), (∀ p ∈ l, p.length ≤ n) → (joinB l).length ≤ l.length * (n + 1)
 | [], n, _ => by simp [joinB]
 | [p], n, h => by have := h p (List.mem_cons_self ..); simp [joinB]; omega
 | p :: q :: l, n, h => by
  have h1 := h p (List.mem_cons_self ..)
  have h2 := joinB_len (q :: l) n (fun r hr => h r (List.mem_cons_of_mem _ hr))
  show (p ++ 32 :: joinB (q :: l)).length ≤ _
  have e : (p :: q :: l).length = (q :: l).length + 1 := rfl
  rw [List.length_append, List.length_cons, e, Nat.succ_mul]
  omega

/-- A name is valid for a bridge. -/
structure NameOk (b : Brid) (lang : ByteArray) (i : Int) (t : List UInt8) : Prop where
 brid : ValidB b
 lang : nameB (bl lang) = true
 script : 0 ≤ i ∧ i < b.scripts.length
 few : (partsOf t).length ≤ 6
 word : ∀ A, b.scripts[i.toNat]? = some A → ∀ p ∈ partsOf t, (readL A.bls p).err = 0
/-- What words become, one after the other; the first error. -/
def KeyRun (Wr : List UInt8 → ByteArray → Int → Prop) (ws : List (List UInt8)) (outs : List ByteArray) (err : Int) : Prop :=
 (err = 0 ∧ outs.length = ws.length ∧ ∀ (i : Nat) (w : List UInt8) (s : ByteArray), ws[i]? = some w → outs[i]? = some s → Wr w s 0) ∨
 (err ≠ 0 ∧ outs = [] ∧ ∃ (k : Nat) (w : List UInt8) (s : ByteArray), ws[k]? = some w ∧ (∀ (i : Nat) (v : List UInt8), i < k → ws[i]? = some v → ∃ r, Wr v r 0) ∧ Wr w s err)
/-- A word's writing in the base script. -/
def BaseW (b : Brid) (i : Int) (w : List UInt8) (s : ByteArray) (err : Int) : Prop := WriteOut b i 0 (bs w) s err
/-- What Key answers. -/
def KeyOut (b : Brid) (lang : ByteArray) (i : Int) (t : List UInt8) (s : List UInt8) (err : Int) : Prop :=
 (¬ NameOk b lang i t ∧ s = [] ∧ err = 1) ∨ (NameOk b lang i t ∧ ∃ outs e1, KeyRun (BaseW b i) (wordsOf t) outs e1 ∧
  ((e1 ≠ 0 ∧ s = [] ∧ err = e1) ∨ (e1 = 0 ∧ 120 < (joinB (outs.map bl)).length ∧ s = [] ∧ err = 2) ∨ (e1 = 0 ∧ (joinB (outs.map bl)).length ≤ 120 ∧ s = joinB (outs.map bl) ∧ err = 0)))
end Go.Proofs.YthachfkcgdfdfaaGreatDoor
/- Plain words: the law of split texts. No program in sight. -/
namespace Go.Proofs.YthachfkcgdfdfaaGreatDoor
open Go Classical

/-- Words with blanks before, between and behind them. -/
def againL (n : Nat) (l : List (List UInt8)) : List UInt8 := List.replicate n 32 ++ l.flatMap (fun p => p ++ List.replicate n 32)
theorem againL_words {n : Nat} (hn : 1 ≤ n) {l : List (List UInt8)} (h : ∀ p ∈ l, p ≠ [] ∧ 32 ∉ p) : wordsOf (againL n l) = l := by
 obtain ⟨m, rfl⟩ : ∃ m, n = m + 1 := ⟨n - 1, by omega⟩
 exact wordsOf_gaps m h
theorem againL_snoc (n : Nat) (l : List (List UInt8)) (p : List UInt8) : againL n (l ++ [p]) = againL n l ++ p ++ List.replicate n 32 := by
 unfold againL
 simp [List.flatMap_append]
theorem flatten_len_le : ∀ (l m : List (List UInt8)), l <+: m → l.flatten.length ≤ m.flatten.length
 | l, _, ⟨r, rfl⟩ => by rw [List.flatten_append, List.length_append]; omega
theorem wordsOf_count : ∀ (l : List (List UInt8)), (∀ p ∈ l, p ≠ []) → l.length ≤ l.flatten.length
 | [], _ => Nat.zero_le _
 | p :: l, h => by
  have h1 := List.length_pos_iff.2 (h p (List.mem_cons_self ..))
  have h2 := wordsOf_count l (fun q hq => h q (List.mem_cons_of_mem _ hq))
  rw [List.flatten_cons, List.length_append, List.length_cons]
  omega
theorem wordsOf_total (t : List UInt8) : (wordsOf t).flatten.length ≤ t.length := by
 rw [wordsOf_flat]; exact List.length_filter_le _ _
theorem wordsOf_few (t : List UInt8) : (wordsOf t).length ≤ t.length := Nat.le_trans (wordsOf_count _ (fun _ hp => (wordsOf_ok hp).1)) (wordsOf_total t)
theorem againL_len (n : Nat) : ∀ (l : List (List UInt8)), (againL n l).length = n + l.flatten.length + l.length * n
 | [] => by simp [againL]
 | p :: l => by
  have ih := againL_len n l
  unfold againL at ih ⊢
  rw [List.length_append, List.length_replicate] at ih ⊢
  rw [List.flatMap_cons, List.length_append, List.flatten_cons, List.length_append, List.length_append, List.length_replicate, List.length_cons, Nat.succ_mul]
  omega
end Go.Proofs.YthachfkcgdfdfaaGreatDoor
