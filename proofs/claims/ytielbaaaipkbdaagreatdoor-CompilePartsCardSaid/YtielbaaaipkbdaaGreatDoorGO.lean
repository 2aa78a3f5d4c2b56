/- N5 · N7 · N6 -/
import Derived.Test.YtielbaaaipkbdaaGreatDoorGN
import Derived.BigQuiet
import Derived.Laws.Concat
import Derived.Deep.QuietTactic
/- Plain words: rules without a context and an end: what two words lead to, one after the other. No program in sight. -/
namespace Go.Proofs.YtielbaaaipkbdaaGreatDoor
open Go Classical

theorem leads_plain : ∀ (l : List RulL) (k : Nat), (∀ x ∈ l, x.nxt = [] ∧ x.fin = false) → ∀ s ∈ leadsFrom k l, s = 1
  | [], _, _, _, h => by simp [leadsFrom] at h
  | x :: r, k, hp, s, h => by
    obtain ⟨h1, h2⟩ := hp x (List.mem_cons_self ..)
    simp only [leadsFrom, h1, h2, if_true, Bool.false_eq_true, if_false, List.mem_cons] at h
    rcases h with rfl | h
    · rfl
    · exact leads_plain r k (fun y hy => hp y (List.mem_cons_of_mem _ hy)) s h
theorem states_plain : ∀ (l : List RulL) (k : Nat), (∀ x ∈ l, x.nxt = [] ∧ x.fin = false) → statesFrom k l = k
  | [], _, _ => rfl
  | x :: r, k, hp => by
    simp only [statesFrom, (hp x (List.mem_cons_self ..)).1, if_true]
    exact states_plain r k (fun y hy => hp y (List.mem_cons_of_mem _ hy))
theorem starts_plain {L : List (List UInt8)} {x : RulL} : ∀ (l : List RulL) (t : List Nat), (∀ y ∈ l, y.nxt = [] ∧ y.fin = false) → startsIn L x l t = []
  | [], _, _ => by simp [startsIn]
  | _ :: _, [], _ => by simp [startsIn]
  | o :: r, s :: t, hp => by
    have h1 : begB L x o = false := by
      unfold begB
      rw [(hp o (List.mem_cons_self ..)).1]
      have : (readL L []).letters = [] := by rfl
      rw [this]; rfl
    simp only [startsIn, h1, Bool.false_eq_true, if_false]
    exact starts_plain r t (fun y hy => hp y (List.mem_cons_of_mem _ hy))

/-- Of such rules: no arc leads to the start or to the end, and what leaves the start leaves state 1. -/
def Again (l : List Arc) : Prop := ∀ a ∈ l, a.to ≠ 0 ∧ a.to ≠ 2 ∧ a.frm ≠ 2 ∧ (a.frm = 0 → (⟨1, a.inp, a.out, a.to⟩ : Arc) ∈ l)
theorem again_rule (x : RulL) (base : Nat) (hb : 3 ≤ base) : Again (ruleArcs x base 1 [0, 1]) := by
  have hto : ∀ j, arcTo x base 1 j ≠ 0 ∧ arcTo x base 1 j ≠ 2 := fun j => by unfold arcTo; split <;> omega
  intro a ha
  unfold ruleArcs at ha ⊢
  simp only [List.map_cons, List.map_nil, List.mem_append, List.mem_cons, List.not_mem_nil, or_false, List.mem_map, List.mem_range] at ha ⊢
  rcases ha with (rfl | rfl) | ⟨j, hj, rfl⟩
  · exact ⟨(hto 0).1, (hto 0).2, by simp [arcAt], fun _ => .inl (.inr rfl)⟩
  · exact ⟨(hto 0).1, (hto 0).2, by simp [arcAt], fun h => absurd h (by simp [arcAt])⟩
  · exact ⟨(hto _).1, (hto _).2, by simp [arcAt]; omega, fun h => absurd h (by simp [arcAt]; omega)⟩
theorem again_from {L : List (List UInt8)} {all : List RulL} {leads : List Nat} (hall : ∀ y ∈ all, y.nxt = [] ∧ y.fin = false) : ∀ (r : List RulL) (t : List Nat) (base : Nat), 3 ≤ base → (∀ z ∈ r, 1 ≤ z.n) → (∀ s ∈ t, s = 1) → Again (arcsFrom L all leads base r t)
  | [], _, _, _, _, _ => fun a ha => by simp [arcsFrom] at ha
  | _ :: _, [], _, _, _, _ => fun a ha => by simp [arcsFrom] at ha
  | z :: r, l :: t, base, hb, hn, ht => by
    have h1 := hn z (List.mem_cons_self ..)
    have hl : l = 1 := ht l (List.mem_cons_self ..)
    subst hl
    have ih := again_from (leads := leads) (L := L) hall r t (base + z.n - 1) (by omega) (fun y hy => hn y (List.mem_cons_of_mem _ hy)) (fun s hs => ht s (List.mem_cons_of_mem _ hs))
    have h0 := again_rule z base hb
    intro a ha
    simp only [arcsFrom, starts_plain all leads hall, List.mem_append] at ha ⊢
    rcases ha with ha | ha
    · obtain ⟨e1, e2, e3, e4⟩ := h0 a ha
      exact ⟨e1, e2, e3, fun h => .inl (e4 h)⟩
    · obtain ⟨e1, e2, e3, e4⟩ := ih a ha
      exact ⟨e1, e2, e3, fun h => .inr (e4 h)⟩
theorem again_compile {R : Ruls} {A : Alph} {M : Mach} (hM : CompileOf R A M) (hp : ∀ r ∈ R.list, r.l.nxt = [] ∧ r.l.fin = false) (hn : ∀ r ∈ R.list, 1 ≤ r.l.n) : Again M.arcs := by
  have hp' : ∀ x ∈ R.list.map Rul.l, x.nxt = [] ∧ x.fin = false := fun x hx => by obtain ⟨r, hr, rfl⟩ := List.mem_map.1 hx; exact hp r hr
  have hn' : ∀ x ∈ R.list.map Rul.l, 1 ≤ x.n := fun x hx => by obtain ⟨r, hr, rfl⟩ := List.mem_map.1 hx; exact hn r hr
  have h := again_from (L := A.bls) (leads := leadsFrom 3 (R.list.map Rul.l)) hp' (R.list.map Rul.l) (leadsFrom 3 (R.list.map Rul.l)) (statesFrom 3 (R.list.map Rul.l)) (statesFrom_ge _ 3) hn' (leads_plain _ 3 hp')
  intro a ha
  obtain ⟨e1, e2, e3, e4⟩ := h a ((hM.mem a).1 ha)
  exact ⟨e1, e2, e3, fun h0 => (hM.mem _).2 (e4 h0)⟩

theorem afterB_append (s t : ByteArray) (c : Int) : s ++ afterB t c = afterB (s ++ t) c := by
  unfold afterB
  split
  · rfl
  · rw [ByteArray.append_assoc]
/-- The place behind a first word's text. -/
def behind (t : ByteArray) (p : Plc) : Plc := ⟨if p.st = 0 then 1 else p.st, t ++ p.tx⟩
theorem behind_goes {M : Mach} (h : Again M.arcs) (t : ByteArray) {c : Int} {p q : Plc} (hg : Goes M c p q) : Goes M c (behind t p) (behind t q) := by
  obtain ⟨a, ha, e1, e2, rfl⟩ := hg
  obtain ⟨n1, _, _, n4⟩ := h a ha
  have hq : behind t ⟨a.to, afterB p.tx a.out⟩ = ⟨a.to, afterB (t ++ p.tx) a.out⟩ := by
    unfold behind; simp only [if_neg n1, afterB_append]
  rw [hq]
  by_cases h0 : p.st = 0
  · refine ⟨_, n4 (e1.trans h0), ?_, e2, rfl⟩
    simp [behind, h0]
  · refine ⟨a, ha, ?_, e2, rfl⟩
    simp [behind, h0, e1]
theorem behind_cl {M : Mach} (h : Again M.arcs) (t : ByteArray) {S T : Plc → Prop} (hS : ∀ p, S p → Cl M T (behind t p)) {p : Plc} (hp : Cl M S p) : Cl M T (behind t p) := by
  induction hp with
  | base h0 => exact hS _ h0
  | more _ hg ih => exact .more ih (behind_goes h t hg)
theorem reach_closed {M : Mach} {l : List UInt8} {p q : Plc} (hp : Reach M l p) (hg : Goes M 0 p q) : Reach M l q := by
  rcases List.eq_nil_or_concat l with rfl | ⟨l', b, rfl⟩
  · rw [Reach_nil] at hp ⊢; exact .more hp hg
  · by_cases hb : b = 0
    · subst hb
      unfold Reach at hp
      simp at hp
    · rw [List.concat_eq_append, Reach_snoc _ _ _ hb] at hp ⊢
      exact .more hp hg
theorem reach_join {M : Mach} (h : Again M.arcs) (h0 : M.start = 0) {one : List UInt8} {t : ByteArray} (ho : Reach M one ⟨1, t⟩) (k : Nat) : ∀ (two : List UInt8), two.length = k → ∀ p, Reach M two p → Reach M (one ++ two) (behind t p) := by
  induction k with
  | zero =>
    intro two hl p hp
    obtain rfl := List.length_eq_zero_iff.1 hl
    rw [List.append_nil]
    rw [Reach_nil] at hp
    induction hp with
    | base e =>
      subst e
      have : behind t ⟨M.start, ⟨#[]⟩⟩ = ⟨1, t⟩ := by
        unfold behind
        simp only [h0, if_true]
        congr 1
        exact ByteArray.append_empty
      rw [this]; exact ho
    | more _ hg ih => exact reach_closed ih (behind_goes h t hg)
  | succ k ih =>
    intro two hl p hp
    have hne : two ≠ [] := by intro e; subst e; simp at hl
    obtain ⟨l', b, rfl⟩ : ∃ l' b, two = l' ++ [b] := ⟨two.dropLast, two.getLast hne, (List.dropLast_concat_getLast hne).symm⟩
    by_cases hb : b = 0
    · subst hb
      unfold Reach at hp
      simp at hp
    · rw [Reach_snoc _ _ _ hb] at hp
      rw [← List.append_assoc, Reach_snoc _ _ _ hb]
      have hl' : l'.length = k := by simpa using hl
      refine behind_cl h t (fun q hq => ?_) hp
      refine .base ?_
      unfold Setout at hq ⊢
      split
      · rename_i e; rw [if_pos e] at hq; exact ih l' hl' q hq
      · rename_i e; rw [if_neg e] at hq
        obtain ⟨q', h1, h2⟩ := hq
        exact ⟨_, ih l' hl' q' h1, behind_goes h t h2⟩
/-- State 2 is never reached. -/
theorem never_two {M : Mach} (h : Again M.arcs) (h0 : M.start = 0) {l : List UInt8} {p : Plc} (hp : Reach M l p) : p.st ≠ 2 := by
  have hcl : ∀ {S : Plc → Prop} {p : Plc}, (∀ q, S q → q.st ≠ 2) → Cl M S p → p.st ≠ 2 := fun hS hp => by
    induction hp with
    | base e => exact hS _ e
    | more _ hg _ => obtain ⟨a, ha, _, _, rfl⟩ := hg; exact (h a ha).2.1
  rcases List.eq_nil_or_concat l with rfl | ⟨l', b, rfl⟩
  · rw [Reach_nil] at hp
    exact hcl (fun q e => by subst e; simp [h0]) hp
  · by_cases hb : b = 0
    · subst hb
      unfold Reach at hp
      simp at hp
    · rw [List.concat_eq_append, Reach_snoc _ _ _ hb] at hp
      refine hcl (fun q hq => ?_) hp
      unfold Setout at hq
      rw [if_neg (by have := b.toNat_lt; intro e; apply hb; apply UInt8.toNat_inj.1; simp; omega)] at hq
      obtain ⟨q', _, a, ha, _, _, rfl⟩ := hq
      exact (h a ha).2.1
theorem parts_plain {R : Ruls} {A : Alph} {M : Mach} (hM : CompileOf R A M) (hp : ∀ r ∈ R.list, r.l.nxt = [] ∧ r.l.fin = false) (hn : ∀ r ∈ R.list, 1 ≤ r.l.n) {one two : List UInt8} {s t : ByteArray} (h1 : Result M one s) (h2 : Result M two t) :
    Result M (one ++ two) (s ++ t) := by
  have h := again_compile hM hp hn
  obtain ⟨z1, s1, m1, r1⟩ := h1
  obtain ⟨z2, s2, m2, r2⟩ := h2
  have n1 : s1 = 1 := by
    have := never_two h hM.start r1
    rw [hM.final] at m1; simp at m1 this; rcases m1 with e | e
    · exact e
    · exact absurd e this
  subst n1
  have n2 : s2 ≠ 0 := by rw [hM.final] at m2; simp at m2; omega
  refine ⟨by simp [z1, z2], s2, m2, ?_⟩
  have := reach_join h hM.start r1 two.length two rfl _ r2
  simpa [behind, n2] using this
end Go.Proofs.YtielbaaaipkbdaaGreatDoor

/- Plain words: how long the texts of results are. No program in sight. -/
namespace Go.Proofs.YtielbaaaipkbdaaGreatDoor
open Go Classical

theorem cl_steps {M : Mach} {S : Plc → Prop} {L : Nat} (hS : ∀ q, S q → q.tx.size ≤ L) {p : Plc} (hp : Cl M S p) : ∀ n, L < n → n ≤ p.tx.size → ∃ q, Cl M S q ∧ q.tx.size = n := by
  induction hp with
  | base h0 => intro n h1 h2; have := hS _ h0; omega
  | @more p q h hg ih =>
    intro n h1 h2
    by_cases e : n = q.tx.size
    · exact ⟨q, .more h hg, e.symm⟩
    · obtain ⟨a, _, _, _, rfl⟩ := hg
      have := afterB_size p.tx a.out
      refine ih n h1 ?_
      have h2' : n ≤ (afterB p.tx a.out).size := h2
      have e' : n ≠ (afterB p.tx a.out).size := e
      omega
theorem cl_size {M : Mach} {S : Plc → Prop} {L : Nat} (hS : ∀ q, S q → q.tx.size ≤ L) (hf : FewPl (Cl M S)) {p : Plc} (hp : Cl M S p) : p.tx.size ≤ L + 2000 := by
  obtain ⟨ks, hk, hm⟩ := hf
  by_cases h : p.tx.size ≤ L
  · omega
  have h1 : ∀ n ∈ List.range' (L + 1) (p.tx.size - L), n ∈ ks.map (fun q => q.tx.size) := fun n hn => by
    rw [List.mem_range'_1] at hn
    obtain ⟨q, hq, e⟩ := cl_steps hS hp n (by omega) (by omega)
    exact List.mem_map.2 ⟨q, hm q hq, e⟩
  have h2 := nodup_len List.nodup_range' h1
  rw [List.length_map, List.length_range'] at h2
  omega
set_option maxRecDepth 100000 in
theorem reach_size {M : Mach} (k : Nat) : ∀ (l : List UInt8), l.length = k → (∀ i, i ≤ l.length → FewPl (Reach M (l.take i))) → ∀ p, Reach M l p → p.tx.size ≤ (k + 1) * 2001 := by
  induction k with
  | zero =>
    intro l hl hf p hp
    obtain rfl := List.length_eq_zero_iff.1 hl
    have h0 := hf 0 (Nat.le_refl _)
    rw [List.take_nil, Reach_nil] at h0
    rw [Reach_nil] at hp
    have := cl_size (L := 0) (fun q hq => by subst hq; exact Nat.le_refl _) h0 hp
    omega
  | succ k ih =>
    intro l hl hf p hp
    have hne : l ≠ [] := by intro e; subst e; simp at hl
    obtain ⟨l', b, rfl⟩ : ∃ l' b, l = l' ++ [b] := ⟨l.dropLast, l.getLast hne, (List.dropLast_concat_getLast hne).symm⟩
    have hl' : l'.length = k := by simpa using hl
    by_cases hb : b = 0
    · subst hb
      unfold Reach at hp
      simp at hp
    · have hlast := hf (l' ++ [b]).length (Nat.le_refl _)
      rw [List.take_length, Reach_snoc _ _ _ hb] at hlast
      rw [Reach_snoc _ _ _ hb] at hp
      have ih' := ih l' hl' (fun i hi => by
        have := hf i (by simp; omega)
        rwa [List.take_append_of_le_length hi] at this)
      have := cl_size (L := (k + 1) * 2001 + 1) (fun q hq => by
        unfold Setout at hq
        split at hq
        · exact Nat.le_succ_of_le (ih' q hq)
        · obtain ⟨q', h1, a, _, _, _, rfl⟩ := hq
          have h2 := ih' q' h1
          have h3 := afterB_size q'.tx a.out
          show (afterB q'.tx a.out).size ≤ _
          omega) hlast hp
      clear hlast ih' ih hf hl hl'
      rw [Nat.succ_mul (k + 1) 2001]
      generalize (k + 1) * 2001 = m at this ⊢
      omega
theorem runs_size {M : Mach} {x : List UInt8} {ts : List ByteArray} {err : Int} (h : RunsOf M x ts err) {t : ByteArray} (ht : t ∈ ts) : t.size ≤ 1000000 := by
  rcases h with ⟨_, h, _⟩ | ⟨⟨_, h4⟩, ⟨_, h, _⟩ | ⟨_, ⟨_, h, _⟩ | ⟨hf, _, _, h⟩⟩⟩
  · subst h; simp at ht
  · subst h; simp at ht
  · subst h; simp at ht
  · obtain ⟨_, s, _, hr⟩ := (h t).1 ht
    have h1 := reach_size x.length x rfl hf _ hr
    have h2 : (x.length + 1) * 2001 ≤ 401 * 2001 := Nat.mul_le_mul_right _ (by omega)
    have h3 : t.size ≤ (x.length + 1) * 2001 := h1
    omega
end Go.Proofs.YtielbaaaipkbdaaGreatDoor

/- Walk: the law CompileParts. -/
namespace Go.Proofs.YtielbaaaipkbdaaGreatDoor
open Go.RowKit Classical

set_option maxRecDepth 100000 in
set_option maxHeartbeats 1000000 in
theorem has_same (l : List ByteArray) (aa : Option Addr) (ac : Nat) (s : ByteArray) (hal : l.length ≤ maxLen) (w : World) (ha : RowAt w w.heap.size aa (strs l)) :
    Calls Tryz.prog 17 #[.slice aa l.length ac, .string s] w fun e w' => e = .returned (.bool (decide (s ∈ l))) ∧ w' = w := by
  unfold maxLen at hal
  go_enter Tryz.func17, Tryz.ntmps17
  go_wp2_with fail
  go_loopw [5] (fun i wr => ∃ k : Nat, k ≤ l.length ∧ i = .int .i64 k ∧ (∀ j, j < k → l[j]? ≠ some s) ∧ wr = w) (fun i _ => l.length - (intOf i).toNat)
  case atStart => exact ⟨0, Nat.zero_le _, rfl, by simp, rfl⟩
  case round =>
    obtain ⟨k, hk, rfl, hto, rfl⟩ := hrel
    have Hto := Lib.hid hto
    clear hto
    by_cases hka : k < l.length
    · obtain ⟨g, o, rfl, hg, hc⟩ := ha.strs (by omega)
      have x0 := hc k hka
      clear hc
      by_cases he : l[k] = s
      · have d2 : (l[k].toList == s.toList) = true := by rw [he]; simp
        have He := Lib.hid he
        clear he
        go_wp2
        go_ret
        exact ⟨ret_yes (by rw [← He.out]; exact List.getElem_mem hka), rfl⟩
      · have d2 : (l[k].toList == s.toList) = false := by
          rw [ByteArray.toList_eq, ByteArray.toList_eq, beq_eq_false_iff_ne]; exact fun e => he (bl_inj e)
        have He := Lib.hid he
        clear he
        go_wp2
        refine ⟨⟨k + 1, by omega, by go_num, fun j hj => ?_, trivial⟩, by simp [intOf]; omega⟩
        rcases Nat.lt_or_ge j k with h | h
        · exact Hto.out j h
        · have : j = k := by omega
          subst this
          rw [List.getElem?_eq_getElem hka]
          exact fun e => He.out (Option.some.inj e)
    · go_wp2
      go_ret
      refine ⟨ret_no fun hm => ?_, rfl⟩
      obtain ⟨j, hj⟩ := List.mem_iff_getElem?.1 hm
      exact Hto.out j (by have := (List.getElem?_eq_some_iff.1 hj).1; omega) hj

theorem nxt_empty {s : ByteArray} : s.toList = [] ↔ s = ⟨#[]⟩ := by
  rw [ByteArray.toList_eq]
  exact ⟨fun e => bl_inj (e.trans rfl), fun e => by rw [e]⟩

theorem tmod_nat (a : Int) (n : Nat) (ha : 0 ≤ a) (hn : 0 < n) : ∃ p : Nat, p < n ∧ a.tmod (n : Int) = (p : Int) := by
  refine ⟨a.toNat % n, Nat.mod_lt _ hn, ?_⟩
  rw [Int.tmod_eq_emod_of_nonneg ha, Int.natCast_emod, Int.toNat_of_nonneg ha]
theorem bl_cat (s t : ByteArray) : bl (s ++ t) = bl s ++ bl t := by
  simp [bl]

set_option maxRecDepth 100000 in
set_option maxHeartbeats 4000000 in
theorem law3_any (R : Ruls) (A B : Alph) (one two : ByteArray) (hx : one.size ≤ 140737488355328) (hy : two.size ≤ 140737488355328) (a b : Int) (ha8 : 0 ≤ a ∧ a ≤ 255) (hb8 : 0 ≤ b ∧ b ≤ 255) (la : Option Addr) (lc : Nat) (va vb : Value) (w : World) (h : RulsAt w w.heap.size (.agg #[.string R.src, .string R.dst, .slice la R.list.length lc]) R) (ha : AlphAt w w.heap.size va A) (hb : AlphAt w w.heap.size vb B) :
    Calls Tryz.prog 5 #[.agg #[.string R.src, .string R.dst, .slice la R.list.length lc], va, vb, .string one, .string two, .int .u8 a, .int .u8 b] w fun e w' => e = .returned (.bool true) ∧ Below w.heap.size w w' := by
  have hxy : (one ++ two).size ≤ maxLen := by rw [ByteArray.size_append]; unfold maxLen; omega
  have hsum : one.size + two.size ≤ 281474976710656 := by omega
  have Hxy := Lib.hid hxy
  clear hxy
  have hR := h
  have hA := ha
  have hB := hb
  have hlen : R.list.length ≤ maxLen := by obtain ⟨_, _, _, _, _, h3, _⟩ := h; exact h3
  unfold maxLen at hlen
  clear h
  obtain ⟨fa, fc, ga, gc, rfl, -, -, -, -, -, -⟩ := ha
  obtain ⟨fa2, fc2, ga2, gc2, rfl, -, -, -, -, -, -⟩ := hb
  go_enter Tryz.func5, Tryz.ntmps5
  go_wp2_with fail
  generalize hW0 : (((w.alloc _).alloc _).alloc _) = W0
  have hw0 : Below w.heap.size w W0 := by rw [← hW0]; exact (((Below.refl _ _).alloc (Nat.le_refl _) _).alloc (by simp) _).alloc (by simp; omega) _
  have hsz : W0.heap.size = w.heap.size + 3 := by rw [← hW0]; simp
  have hbr : Box W0 w.heap.size [Value.string R.src, .string R.dst, .slice la R.list.length lc] := by
    rw [← hW0]; exact ((Box.new _ _ _).alloc (by simp) _).alloc (by simp; omega) _
  have hba : Box W0 (w.heap.size + 1) [Value.string A.name, .slice fa A.letters.length fc, .slice ga A.small.length gc] := by
    rw [← hW0]; have := (Box.new (w.alloc (.cells #[Value.string R.src, .string R.dst, .slice la R.list.length lc] 24)) [Value.string A.name, .slice fa A.letters.length fc, .slice ga A.small.length gc] 28)
    simp at this; exact this.alloc (by simp) _
  have hbb : Box W0 (w.heap.size + 2) [Value.string B.name, .slice fa2 B.letters.length fc2, .slice ga2 B.small.length gc2] := by
    rw [← hW0]; have := (Box.new ((w.alloc (.cells #[Value.string R.src, .string R.dst, .slice la R.list.length lc] 24)).alloc (.cells #[Value.string A.name, .slice fa A.letters.length fc, .slice ga A.small.length gc] 28)) [Value.string B.name, .slice fa2 B.letters.length fc2, .slice ga2 B.small.length gc2] 28)
    simp at this; exact this
  clear hW0
  have Hk := Lib.hid (fun wr (hbw : Below W0.heap.size W0 wr) => And.intro (hbr.below hbw (by omega)).c3 (And.intro (hba.below hbw (by omega)).c3 (hbb.below hbw (by omega)).c3))
  have Har := Lib.hid (fun wr (hbw : Below W0.heap.size W0 wr) => have hw := hw0.trans (hbw.mono hw0.size); And.intro ((hR.below hw (Nat.le_refl _)).more hw.size) (And.intro ((hA.below hw (Nat.le_refl _)).more hw.size) ((hB.below hw (Nat.le_refl _)).more hw.size)))
  have Hw0 := Lib.hid hw0
  clear hbr hba hbb hR hA hB hw0
  have Hrow := Lib.hid (fun wr (hbw : Below W0.heap.size W0 wr) => ((Har.out wr hbw).1))
  refine (head_ok W0).mono ?_
  rintro e w1 ⟨rfl, hb1⟩
  go_wp2_with fail
  go_loopw [16] (fun i wr => ∃ k : Nat, k ≤ R.list.length ∧ i = .int .i64 k ∧ (∀ (j : Nat) r, j < k → R.list[j]? = some r → r.nxt = ⟨#[]⟩ ∧ r.fin = false) ∧ Below W0.heap.size W0 wr) (fun i _ => R.list.length - (intOf i).toNat)
  case atStart => exact ⟨0, Nat.zero_le _, rfl, fun j r h => absurd h (Nat.not_lt_zero _), hb1⟩
  case round =>
    obtain ⟨k, hk, rfl, hto, hbw⟩ := hrel
    have Hto := Lib.hid hto
    clear hto
    have hbF := Hw0.out.trans (hbw.mono Hw0.out.size)
    obtain ⟨⟨r0, r1, r2⟩, -, -⟩ := Hk.out wr hbw
    by_cases hka : k < R.list.length
    · obtain ⟨a', c', e', -, -, -, -, hrows⟩ := (Har.out wr hbw).1
      simp only [Value.agg.injEq, Array.mk.injEq, List.cons.injEq, and_true, true_and, Value.slice.injEq] at e'
      obtain ⟨rfl, rfl⟩ := e'
      obtain ⟨g, o, hla, hg, hc⟩ := hrows.ruls (by omega)
      subst hla
      obtain ⟨-, -, c2, c3⟩ := hc k hka
      clear hc hrows
      by_cases hn : R.list[k].nxt = ⟨#[]⟩
      · have d2 : R.list[k].nxt.toList = [] := nxt_empty.2 hn
        cases hfin : R.list[k].fin
        · rw [hfin] at c3
          have Hn := Lib.hid (And.intro hn hfin)
          clear hn hfin
          go_wp2
          refine ⟨⟨k + 1, by omega, by go_num, fun j r hj hr => ?_, hbw⟩, by simp [intOf]; omega⟩
          rcases Nat.lt_or_ge j k with h | h
          · exact Hto.out j r h hr
          · have : j = k := by omega
            subst this
            rw [List.getElem?_eq_getElem hka] at hr
            rw [← Option.some.inj hr]
            exact Hn.out
        · rw [hfin] at c3
          clear hn hfin
          go_wp2
          go_ret
          exact ⟨rfl, hbF⟩
      · have d2 : R.list[k].nxt.toList.isEmpty = false := by
          rw [Bool.eq_false_iff]; intro e; exact hn (nxt_empty.1 (List.isEmpty_iff.1 e))
        have d3 : ¬ R.list[k].nxt.toList = [] := fun e => hn (nxt_empty.1 e)
        clear hn
        go_wp2
        go_ret
        exact ⟨rfl, hbF⟩
    · have hall : ∀ r ∈ R.list, r.l.nxt = [] ∧ r.l.fin = false := fun r hr => by
        obtain ⟨j, hj⟩ := List.mem_iff_getElem?.1 hr
        obtain ⟨h1, h2⟩ := Hto.out j r (by have := (List.getElem?_eq_some_iff.1 hj).1; omega) hj
        exact ⟨by simp only [Rul.l, h1]; rfl, h2⟩
      have Hall := Lib.hid hall
      clear hall Hto
      obtain ⟨-, ⟨a0, a1, a2⟩, ⟨b0, b1, b2⟩⟩ := Hk.out wr hbw
      go_wp2_with fail
      obtain ⟨h1, h2, h3⟩ := Har.out wr hbw
      refine (Compile_prog R A B _ _ _ wr h1 h2 h3).mono ?_
      rintro e w5 ⟨v5, M, err, rfl, hm5, hb5, hno, hok⟩
      clear r0 r1 r2 a0 a1 a2 b0 b1 b2 h1 h2 h3 hbF
      have Hm5 := Lib.hid (And.intro hm5 (And.intro hno hok))
      obtain ⟨xa, xc, ya, yc, rfl, -, -, -, -⟩ := hm5
      clear hno hok
      go_upto_region 8 with (fail)
      generalize hW6 : (w5.alloc _) = W6
      have hb6 : Below w5.heap.size w5 W6 := by rw [← hW6]; exact (Below.refl _ _).alloc (Nat.le_refl _) _
      have k6 : Blk W6 w5.heap.size #[.int .i64 M.states, .int .i64 M.start, .slice xa M.final.length xc, .slice ya M.arcs.length yc] 33 := by rw [← hW6]; exact Blk.new _ _ _
      have hm6 := (Hm5.out.1.below hb6 (Nat.le_refl _)).more hb6.size
      have hB6 := hbw.trans ((hb5.trans (hb6.mono hb5.size)).mono hbw.size)
      have Hc := Lib.hid Hm5.out.2
      clear hW6 hb6 hb5 Hm5 hbw
      obtain ⟨⟨r0, r1, r2⟩, ⟨a0, a1, a2⟩, ⟨b0, b1, b2⟩⟩ := Hk.out W6 hB6
      obtain ⟨h1, h2, h3⟩ := Har.out W6 hB6
      have H6 := Lib.hid (And.intro k6 (And.intro hm6 hB6))
      clear k6 hm6 hB6
      go_wp2_with fail
      refine (few15_any R A B (one ++ two) Hxy.out _ _ _ W6 h1 h2 h3).mono ?_
      rintro e w7 ⟨rfl, hb7⟩
      clear r0 r1 r2 a0 a1 a2 b0 b1 b2 h1 h2 h3
      have H7 := Lib.hid (And.intro (H6.out.1.below hb7 H6.out.1.lt) (And.intro ((H6.out.2.1.below hb7 (Nat.le_refl _)).more hb7.size) (H6.out.2.2.trans (hb7.mono H6.out.2.2.size))))
      clear H6 hb7
      have hbF := Hw0.out.trans (H7.out.2.2.mono Hw0.out.size)
      by_cases hf : ¬ FewW R A B (one ++ two)
      · rw [decide_eq_false hf]
        clear hf
        go_wp2
        go_ret
        exact ⟨rfl, hbF⟩
      rw [decide_eq_true (Classical.not_not.1 hf)]
      clear hf
      by_cases h8 : 8 < one.size
      · have d1 : decide ((8 : Int) < one.size) = true := by simp; omega
        have d2 : decide ((one.size : Int) > 8) = true := by simp; omega
        clear h8
        go_wp2
        go_ret
        exact ⟨rfl, hbF⟩
      have d1 : decide ((8 : Int) < one.size) = false := by simp; omega
      by_cases h8' : 8 < two.size
      · have d2 : decide ((8 : Int) < two.size) = true := by simp; omega
        clear h8 h8'
        go_wp2
        go_ret
        exact ⟨rfl, hbF⟩
      have d2 : decide ((8 : Int) < two.size) = false := by simp; omega
      clear h8 h8'
      by_cases hv : Valid11 R A B
      case neg =>
        obtain ⟨rfl, -⟩ := Hc.out.1 hv
        clear hv
        go_wp2
        go_ret
        exact ⟨rfl, hbF⟩
      obtain ⟨rfl, hcM⟩ := Hc.out.2 hv
      have Hres := Lib.hid (fun (s t : ByteArray) (h1 : Result M (bl one) s) (h2 : Result M (bl two) t) => parts_plain hcM Hall.out (fun r hr => (rul_n (hv.1.2.2.2.2.1 r hr)).2) h1 h2)
      clear Hc hcM hv hbF Hall
      go_upto_region 10 with (fail)
      have k7 := H7.out.1
      have m0 : w7.cell? ⟨w5.heap.size, 0, none⟩ = some (.int .i64 M.states) := k7.cell 0
      have m1 : w7.cell? ⟨w5.heap.size, 1, none⟩ = some (.int .i64 M.start) := k7.cell 1
      have m2 : w7.cell? ⟨w5.heap.size, 2, none⟩ = some (.slice xa M.final.length xc) := k7.cell 2
      have m3 : w7.cell? ⟨w5.heap.size, 3, none⟩ = some (.slice ya M.arcs.length yc) := k7.cell 3
      clear k7
      go_wp2_with fail
      refine (Runs_any M _ one (by unfold maxLen; omega) w7 H7.out.2.1).mono ?_
      clear m0 m1 m2 m3
      rintro e w9 ⟨v9, xs, g1, rfl, ⟨a9, c9', rfl, hrow9⟩, hb9, hro9⟩
      have H9 := Lib.hid (And.intro hrow9 (And.intro hro9 (And.intro (H7.out.1.below hb9 H7.out.1.lt) (And.intro ((H7.out.2.1.below hb9 (Nat.le_refl _)).more hb9.size) (H7.out.2.2.trans (hb9.mono H7.out.2.2.size))))))
      clear hrow9 hro9 hb9 H7 d1 d2
      go_upto_region 11 with (fail)
      have k9 := H9.out.2.2.1
      have m0 : w9.cell? ⟨w5.heap.size, 0, none⟩ = some (.int .i64 M.states) := k9.cell 0
      have m1 : w9.cell? ⟨w5.heap.size, 1, none⟩ = some (.int .i64 M.start) := k9.cell 1
      have m2 : w9.cell? ⟨w5.heap.size, 2, none⟩ = some (.slice xa M.final.length xc) := k9.cell 2
      have m3 : w9.cell? ⟨w5.heap.size, 3, none⟩ = some (.slice ya M.arcs.length yc) := k9.cell 3
      clear k9
      go_wp2_with fail
      refine (Runs_any M _ two (by unfold maxLen; omega) w9 H9.out.2.2.2.1).mono ?_
      clear m0 m1 m2 m3
      rintro e wA ⟨vA, ys, g2, rfl, ⟨aA, cA, rfl, hrowA⟩, hbA, hroA⟩
      have HA := Lib.hid (And.intro ((H9.out.1.below hbA (Nat.le_refl _)).more hbA.size) (And.intro H9.out.2.1 (And.intro hrowA (And.intro hroA (And.intro (H9.out.2.2.1.below hbA H9.out.2.2.1.lt) (And.intro ((H9.out.2.2.2.1.below hbA (Nat.le_refl _)).more hbA.size) (H9.out.2.2.2.2.trans (hbA.mono H9.out.2.2.2.2.size))))))))
      clear hrowA hroA hbA H9
      go_upto_region 12 with (fail)
      have kA := HA.out.2.2.2.2.1
      have m0 : wA.cell? ⟨w5.heap.size, 0, none⟩ = some (.int .i64 M.states) := kA.cell 0
      have m1 : wA.cell? ⟨w5.heap.size, 1, none⟩ = some (.int .i64 M.start) := kA.cell 1
      have m2 : wA.cell? ⟨w5.heap.size, 2, none⟩ = some (.slice xa M.final.length xc) := kA.cell 2
      have m3 : wA.cell? ⟨w5.heap.size, 3, none⟩ = some (.slice ya M.arcs.length yc) := kA.cell 3
      clear kA
      go_wp2_with fail
      refine (Runs_any M _ (one ++ two) Hxy.out wA HA.out.2.2.2.2.2.1).mono ?_
      clear m0 m1 m2 m3
      rintro e wB ⟨vB, zs, g3, rfl, ⟨aB, cB, rfl, hrowB⟩, hbB, hroB⟩
      have HB := Lib.hid (And.intro ((HA.out.1.below hbB (Nat.le_refl _)).more hbB.size) (And.intro HA.out.2.1 (And.intro ((HA.out.2.2.1.below hbB (Nat.le_refl _)).more hbB.size) (And.intro HA.out.2.2.2.1 (And.intro hrowB (And.intro hroB (HA.out.2.2.2.2.2.2.trans (hbB.mono HA.out.2.2.2.2.2.2.size))))))))
      clear hrowB hroB hbB HA
      have hbF := Hw0.out.trans (HB.out.2.2.2.2.2.2.mono Hw0.out.size)
      by_cases hg1 : g1 = 0
      case neg =>
        have d1 : (g1 != 0) = true := by simp [hg1]
        go_wp2
        go_ret
        exact ⟨rfl, hbF⟩
      by_cases hg2 : g2 = 0
      case neg =>
        have d1 : (g2 != 0) = true := by simp [hg2]
        subst hg1
        go_wp2
        go_ret
        exact ⟨rfl, hbF⟩
      by_cases hg3 : g3 = 0
      case neg =>
        have d1 : (g3 != 0) = true := by simp [hg3]
        subst hg1 hg2
        go_wp2
        go_ret
        exact ⟨rfl, hbF⟩
      subst hg1 hg2 hg3
      by_cases hl1 : xs.length = 0
      · have d1 : decide ((xs.length : Int) = 0) = true := by simp [hl1]
        have d2 : ((xs.length : Int) == 0) = true := by simp [hl1]
        clear hl1
        go_wp2
        go_ret
        exact ⟨rfl, hbF⟩
      have e1 : decide ((xs.length : Int) = 0) = false := by rw [decide_eq_false_iff_not]; omega
      have e2 : ((xs.length : Int) == 0) = false := by rw [beq_eq_false_iff_ne]; omega
      by_cases hl2 : ys.length = 0
      · have d1 : decide ((ys.length : Int) = 0) = true := by simp [hl2]
        have d2 : ((ys.length : Int) == 0) = true := by simp [hl2]
        clear hl1 hl2
        go_wp2
        go_ret
        exact ⟨rfl, hbF⟩
      have e3 : decide ((ys.length : Int) = 0) = false := by rw [decide_eq_false_iff_not]; omega
      have e4 : ((ys.length : Int) == 0) = false := by rw [beq_eq_false_iff_ne]; omega
      have Hl := Lib.hid (And.intro hl1 hl2)
      clear hl1 hl2
      go_upto_region 15 with (fail)
      obtain ⟨p, hp, hr1⟩ := tmod_nat a xs.length ha8.1 (by have := Hl.out.1; omega)
      obtain ⟨q, hq, hr2⟩ := tmod_nat b ys.length hb8.1 (by have := Hl.out.2; omega)
      have wa : IntKind.i64.wrap a = a := by simp [IntKind.wrap, IntKind.bits, IntKind.signed]; omega
      have wb : IntKind.i64.wrap b = b := by simp [IntKind.wrap, IntKind.bits, IntKind.signed]; omega
      obtain ⟨gx, ox, rfl, hgx, hcx⟩ := HB.out.1.strs (by omega)
      obtain ⟨gy, oy, rfl, hgy, hcy⟩ := HB.out.2.2.1.strs (by omega)
      have x0 := hcx p hp
      have y0 := hcy q hq
      clear hcx hcy
      have s1 := runs_size HB.out.2.1 (List.getElem_mem hp)
      have s2 := runs_size HB.out.2.2.2.1 (List.getElem_mem hq)
      have hm : xs[p] ++ ys[q] ∈ zs := (runs_ok HB.out.2.2.2.2.2.1).2 (by
        rw [bl_cat]; exact Hres.out _ _ ((runs_ok HB.out.2.1).1 (List.getElem_mem hp)) ((runs_ok HB.out.2.2.2.1).1 (List.getElem_mem hq)))
      have hh : ∀ n, Calls Tryz.prog 17 #[.slice aB zs.length cB, .string (xs[p] ++ ys[q])] (wB.drewN n) fun e w' => e = .returned (.bool true) ∧ w' = wB.drewN n := fun n => by
        have h := has_same zs aB cB (xs[p] ++ ys[q]) (by have := runs_len HB.out.2.2.2.2.2.1; unfold maxLen; omega) (wB.drewN n) (HB.out.2.2.2.2.1.drewN n)
        rw [decide_eq_true hm] at h
        exact h
      have Hh := Lib.hid hh
      clear hh hm
      have hsum2 : xs[p].size + ys[q].size ≤ 281474976710656 := by omega
      have hsum3 : ¬ ((9223372036854775807 : Int) < (xs[p].size : Int) + (ys[q].size : Int)) := by omega
      have hadd : ∀ W, (Op.stringOp .add xs[p] ys[q]).run Tryz.prog W = .ok (.string (xs[p] ++ ys[q])) W := fun W => by first | exact run_string_add W _ _ (by omega) (by omega) | exact run_string_add _ _ (by omega) (by omega)
      have n1 : ¬ xs = [] := by intro e; apply Hl.out.1; rw [e]; rfl
      have n2 : ¬ ys = [] := by intro e; apply Hl.out.2; rw [e]; rfl
      have n3 : ¬ xs.length = 0 := Hl.out.1
      have n4 : ¬ ys.length = 0 := Hl.out.2
      have n5 : ¬ (xs.length : Int) = 0 := by omega
      have n6 : ¬ (ys.length : Int) = 0 := by omega
      go_quiet ((go_at_call 17; go_must (exact Calls.quiet_of_same (Hh.out _))))
      go_wp2
      go_ret
      exact ⟨rfl, below_dn hbF _⟩
end Go.Proofs.YtielbaaaipkbdaaGreatDoor
