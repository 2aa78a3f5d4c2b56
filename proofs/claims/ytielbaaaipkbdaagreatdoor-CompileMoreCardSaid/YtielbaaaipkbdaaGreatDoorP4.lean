/- Plain words on what a machine answers for a text; sets of strings as the library's sorting wants them. -/
import Derived.Test.YtielbaaaipkbdaaGreatDoorGP
import Derived.Sort.KeysCollected
namespace Go.Proofs.YtielbaaaipkbdaaGreatDoor
open Go Classical Go.Maps

theorem nodup_len {α : Type} : ∀ {l m : List α}, l.Nodup → (∀ x ∈ l, x ∈ m) → l.length ≤ m.length
  | [], _, _, _ => Nat.zero_le _
  | x :: l, m, hn, hs => by
    have hx := hs x (by simp)
    obtain ⟨A, B, rfl⟩ := List.append_of_mem hx
    have h1 := nodup_len (l := l) (m := A ++ B) (List.nodup_cons.1 hn).2 (fun y hy => by
      have := hs y (List.mem_cons_of_mem _ hy)
      simp at this ⊢
      rcases this with h | rfl | h
      · exact .inl h
      · exact absurd hy (List.nodup_cons.1 hn).1
      · exact .inr h)
    simp at h1 ⊢; omega
theorem few_of {S : Plc → Prop} {ks : List Plc} (hl : ks.length ≤ 2000) (h : ∀ p, S p → p ∈ ks) : FewPl S := ⟨ks, hl, h⟩
theorem not_few {S : Plc → Prop} {ks : List Plc} (hl : 2000 < ks.length) (hn : ks.Nodup) (h : ∀ p ∈ ks, S p) : ¬ FewPl S := by
  rintro ⟨ks', h1, h2⟩
  have := nodup_len hn (fun p hp => h2 p (h p hp))
  omega

theorem cl_empty {M : Mach} {S : Plc → Prop} (h : ∀ p, ¬ S p) {p : Plc} : ¬ Cl M S p := by
  intro hp
  induction hp with
  | base h0 => exact h _ h0
  | more _ _ ih => exact ih
theorem reach_snoc0 (M : Mach) (l : List UInt8) (p : Plc) : ¬ Reach M (l ++ [0]) p := by
  unfold Reach; rw [List.foldl_append]; simp
theorem snoc_ind {P : List UInt8 → Prop} (h0 : P []) (h1 : ∀ l b, P l → P (l ++ [b])) : ∀ l, P l := by
  intro l
  rw [← List.reverse_reverse l]
  generalize l.reverse = r
  induction r with
  | nil => exact h0
  | cons b r ih => rw [List.reverse_cons]; exact h1 _ _ ih
theorem reach_more (M : Mach) {l : List UInt8} (b : UInt8) (h : ∀ p, ¬ Reach M l p) (p : Plc) : ¬ Reach M (l ++ [b]) p := by
  by_cases hb : b = 0
  · subst hb; exact reach_snoc0 M _ p
  · rw [Reach_snoc M _ b hb]
    refine cl_empty (fun q hq => ?_)
    unfold Setout at hq
    rw [if_neg (fun e => hb (by
      have : b.toNat = 0 := by omega
      exact UInt8.toNat_inj.1 this))] at hq
    obtain ⟨q', h1, _⟩ := hq
    exact h q' h1
theorem reach_zero (M : Mach) : ∀ (l : List UInt8), 0 ∈ l → ∀ p, ¬ Reach M l p := by
  refine snoc_ind (fun h => by simp at h) (fun l b ih h p => ?_)
  by_cases h0 : 0 ∈ l
  · exact reach_more M b (ih h0) p
  · have hb : b = 0 := by simp [h0] at h; exact h.symm
    subst hb; exact reach_snoc0 M l p

/-- In order, each once. -/
def SortedB (ts : List ByteArray) : Prop := (ts.map bl).Pairwise (fun a b => a ≤ b) ∧ (ts.map bl).Nodup
theorem SortedB.ext {a b : List ByteArray} (ha : SortedB a) (hb : SortedB b) (h : ∀ t, t ∈ a ↔ t ∈ b) : a = b := by
  have hp : (a.map bl).Perm (b.map bl) := by
    refine (List.perm_ext_iff_of_nodup ha.2 hb.2).2 (fun x => ?_)
    rw [List.mem_map, List.mem_map]
    constructor
    · rintro ⟨t, ht, rfl⟩; exact ⟨t, (h t).1 ht, rfl⟩
    · rintro ⟨t, ht, rfl⟩; exact ⟨t, (h t).2 ht, rfl⟩
  have he := List.Perm.eq_of_pairwise (le := fun a b : List UInt8 => a ≤ b) (fun x y _ _ h1 h2 => List.le_antisymm h1 h2) ha.1 hb.1 hp
  have hinj : ∀ (a b : List ByteArray), a.map bl = b.map bl → a = b := by
    intro a
    induction a with
    | nil => intro b e; cases b with
      | nil => rfl
      | cons _ _ => simp at e
    | cons x a ih =>
      intro b e
      cases b with
      | nil => simp at e
      | cons y b =>
        simp at e
        rw [bl_inj e.1, ih b e.2]
  exact hinj a b he

/-- What Runs answers: the results, an error. -/
def RunsOf (M : Mach) (x : List UInt8) (ts : List ByteArray) (err : Int) : Prop :=
  (¬ (ValidM M ∧ x.length ≤ 400) ∧ ts = [] ∧ err = 1) ∨
  ((ValidM M ∧ x.length ≤ 400) ∧ ((Circle M ∧ ts = [] ∧ err = 12) ∨
    (¬ Circle M ∧ (((∃ i, i ≤ x.length ∧ ¬ FewPl (Reach M (x.take i))) ∧ ts = [] ∧ err = 2) ∨ ((∀ i, i ≤ x.length → FewPl (Reach M (x.take i))) ∧ err = 0 ∧ SortedB ts ∧ ∀ t, t ∈ ts ↔ Result M x t)))))

/-- A set of strings as the library's sorting reads it. -/
theorem insert_perm {H : Type} (x : Lit × DataW H) : ∀ l : List (Lit × DataW H), (DataW.insert x l).Perm (x :: l)
  | [] => List.Perm.refl _
  | y :: r => by
    rw [DataW.insert]
    split
    · exact List.Perm.refl _
    · exact ((insert_perm x r).cons y).trans (List.Perm.swap x y r)
theorem sorted_perm {H : Type} : ∀ l : List (Lit × DataW H), (l.foldr DataW.insert []).Perm l
  | [] => List.Perm.refl _
  | x :: l => (insert_perm x _).trans ((sorted_perm l).cons x)
theorem owns_strs {P : Program} {k : TypeId} (hk : P.underlying k = some .string) {w : World} {b : Nat} {ss : List ByteArray} (h : SetIs w b OkStr (ss.map Value.string)) (hsz : ∀ s ∈ ss, s.size ≤ maxLen) (hl : ss.length ≤ maxLen) :
    ∃ D0 : DataW Unit, w.ownsMap P k (fun _ => some (DataW.nil, [])) b ss.length D0 ∧ (strKeys D0).Perm (ss.map bl) ∧ Maps.size D0 = ss.length := by
  obtain ⟨es, clock, hb, hs, hok, hm⟩ := h
  have hlen : es.size = ss.length := by have := congrArg List.length hm; simpa using this
  have hkeys : es.toList.map (·.key) = ss.map Value.string := by
    have := congrArg (List.map Prod.fst) hm
    simpa [List.map_map, Function.comp_def] using this
  have hkof : ∀ s : ByteArray, s.size ≤ maxLen → keyOf P k (.string s) = some (.string (bl s)) := fun s h => by
    unfold keyOf; rw [hk]; simp [mapKey, hk, h, bl]
  have hrd : ∀ y ∈ es.toList, ∃ s ∈ ss, y.key = .string s ∧ Go.WideElems.rd P k (fun _ => some ((DataW.nil : DataW Unit), [])) y = some (.string (bl s), .nil) := fun y hy => by
    have : y.key ∈ ss.map Value.string := by rw [← hkeys]; exact List.mem_map.2 ⟨y, hy, rfl⟩
    obtain ⟨s, hss, e⟩ := List.mem_map.1 this
    refine ⟨s, hss, e.symm, ?_⟩
    unfold Go.WideElems.rd
    rw [← e, hkof s (hsz s hss)]; rfl
  refine ⟨_, ⟨es, clock, hb, ⟨by omega, hs, fun y hy => by obtain ⟨s, _, _, h⟩ := hrd y hy; exact ⟨_, h⟩⟩, by omega, rfl⟩, ?_, ?_⟩
  · show (((es.toList.map (Go.WideElems.rg P k (fun _ => some ((DataW.nil : DataW Unit), [])))).foldr DataW.insert []).map fun p => strOf p.1).Perm _
    refine ((sorted_perm _).map _).trans ?_
    have : (es.toList.map (Go.WideElems.rg P k (fun _ => some ((DataW.nil : DataW Unit), [])))).map (fun p => strOf p.1) = ss.map bl := by
      have e2 : ss.map bl = (es.toList.map (·.key)).map (fun v => match v with | .string s => bl s | _ => []) := by
        rw [hkeys, List.map_map]; rfl
      rw [e2, List.map_map, List.map_map]
      refine List.map_congr_left (fun y hy => ?_)
      obtain ⟨s, _, e, h⟩ := hrd y hy
      simp only [Function.comp_apply, Go.WideElems.rg, h, e, Option.getD_some, strOf]
    rw [this]
  · simp [Maps.size, List.Perm.length_eq (sorted_perm _), hlen]
end Go.Proofs.YtielbaaaipkbdaaGreatDoor
