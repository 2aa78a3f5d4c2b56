/- N1 · N2 · N3 -/
import Derived.Test.YtielbaaaipkbdaaGreatDoorGF
import Derived.Test.YtielbaaaipkbdaaGreatDoorGX
import Derived.Test.YtielbaaaipkbdaaGreatDoorW13b
import Derived.Test.YtielbaaaipkbdaaGreatDoorGP
import Derived.Test.YtielbaaaipkbdaaGreatDoorH1
/- Walks: few and has, of the laws on compiled rules. -/
namespace Go.Proofs.YtielbaaaipkbdaaGreatDoor
open Go.RowKit Classical

/-- Few rules, and a short word. -/
def FewW (R : Ruls) (A B : Alph) (x : ByteArray) : Prop := Few13 R A B 8 ∧ x.size ≤ 16

set_option maxRecDepth 100000 in
set_option maxHeartbeats 2000000 in
theorem few15_any (R : Ruls) (A B : Alph) (x : ByteArray) (hx : x.size ≤ maxLen) (v va vb : Value) (w : World) (h : RulsAt w w.heap.size v R) (ha : AlphAt w w.heap.size va A) (hb : AlphAt w w.heap.size vb B) :
    Calls Tryz.prog 15 #[v, va, vb, .string x] w fun e w' => e = .returned (.bool (decide (FewW R A B x))) ∧ Below w.heap.size w w' := by
  unfold maxLen at hx
  have hR := h
  have hA := ha
  have hB := hb
  obtain ⟨la, lc, rfl, hs1, hs2, hln, hlr, hl⟩ := h
  obtain ⟨fa, fc, ga, gc, rfl, hn, hl1, hs3, hls, hfl, hfs⟩ := ha
  obtain ⟨fa2, fc2, ga2, gc2, rfl, hn2, hl2, hs4, hls2, hfl2, hfs2⟩ := hb
  go_enter Tryz.func15, Tryz.ntmps15
  go_wp2_with fail
  generalize hW0 : (((w.alloc _).alloc _).alloc _) = W0
  have hw0 : Below w.heap.size w W0 := by rw [← hW0]; exact (((Below.refl _ _).alloc (Nat.le_refl _) _).alloc (by simp) _).alloc (by simp; omega) _
  clear hW0 hs1 hs2 hln hlr hl hn hl1 hs3 hls hfl hfs hn2 hl2 hs4 hls2 hfl2 hfs2
  have h1 := (hR.below hw0 (Nat.le_refl _)).more hw0.size
  have h2 := (hA.below hw0 (Nat.le_refl _)).more hw0.size
  have h3 := (hB.below hw0 (Nat.le_refl _)).more hw0.size
  refine (few13_any R A B 8 _ _ _ W0 h1 h2 h3).mono ?_
  rintro e w1 ⟨rfl, hb1⟩
  have hbF := hw0.trans (hb1.mono hw0.size)
  clear h1 h2 h3 hR hA hB hw0 hb1
  by_cases hf : Few13 R A B 8
  · rw [decide_eq_true hf]
    have Hf := Lib.hid hf
    clear hf
    by_cases hs : x.size ≤ 16
    · have d : decide ((x.size : Int) ≤ 16) = true := by simp; omega
      have Hs := Lib.hid hs
      clear hs
      go_wp2
      go_ret
      exact ⟨ret_yes ⟨Hf.out, Hs.out⟩, hbF⟩
    · have d : decide ((x.size : Int) ≤ 16) = false := by simp; omega
      have Hs := Lib.hid hs
      clear hs
      go_wp2
      go_ret
      exact ⟨ret_no fun h => Hs.out h.2, hbF⟩
  · rw [decide_eq_false hf]
    have Hf := Lib.hid hf
    clear hf
    go_wp2
    go_ret
    exact ⟨ret_no fun h => Hf.out h.1, hbF⟩

set_option maxRecDepth 100000 in
set_option maxHeartbeats 1000000 in
theorem has_any (l : List ByteArray) (aa : Option Addr) (ac : Nat) (s : ByteArray) (hal : l.length ≤ maxLen) (w : World) (ha : RowAt w w.heap.size aa (strs l)) :
    Calls Tryz.prog 17 #[.slice aa l.length ac, .string s] w fun e w' => e = .returned (.bool (decide (s ∈ l))) ∧ Below w.heap.size w w' := by
  unfold maxLen at hal
  go_enter Tryz.func17, Tryz.ntmps17
  go_wp2_with fail
  go_loopw [5] (fun i wr => ∃ k : Nat, k ≤ l.length ∧ i = .int .i64 k ∧ (∀ j, j < k → l[j]? ≠ some s) ∧ Below w.heap.size w wr) (fun i _ => l.length - (intOf i).toNat)
  case atStart => exact ⟨0, Nat.zero_le _, rfl, by simp, Below.refl _ _⟩
  case round =>
    obtain ⟨k, hk, rfl, hto, hbw⟩ := hrel
    have Hto := Lib.hid hto
    clear hto
    by_cases hka : k < l.length
    · obtain ⟨g, o, rfl, hg, hc⟩ := ha.strs (by omega)
      have x0 := (hbw.cell (p := ⟨g, o + k, none⟩) hg).trans (hc k hka)
      clear hc
      by_cases he : l[k] = s
      · have d2 : (l[k].toList == s.toList) = true := by rw [he]; simp
        have He := Lib.hid he
        clear he
        go_wp2
        go_ret
        exact ⟨ret_yes (by rw [← He.out]; exact List.getElem_mem hka), hbw⟩
      · have d2 : (l[k].toList == s.toList) = false := by
          rw [ByteArray.toList_eq, ByteArray.toList_eq, beq_eq_false_iff_ne]; exact fun e => he (bl_inj e)
        have He := Lib.hid he
        clear he
        go_wp2
        refine ⟨⟨k + 1, by omega, by go_num, fun j hj => ?_, hbw⟩, by simp [intOf]; omega⟩
        rcases Nat.lt_or_ge j k with h | h
        · exact Hto.out j h
        · have : j = k := by omega
          subst this
          rw [List.getElem?_eq_getElem hka]
          exact fun e => He.out (Option.some.inj e)
    · go_wp2
      go_ret
      refine ⟨ret_no fun hm => ?_, hbw⟩
      obtain ⟨j, hj⟩ := List.mem_iff_getElem?.1 hm
      exact Hto.out j (by have := (List.getElem?_eq_some_iff.1 hj).1; omega) hj
end Go.Proofs.YtielbaaaipkbdaaGreatDoor

/- Plain words: the machine of all rules but the last one leads where that of all rules leads. No program in sight. -/
namespace Go.Proofs.YtielbaaaipkbdaaGreatDoor
open Go Classical

def phi (S d : Nat) (z : Int) : Int := if z < (S : Int) then z else z + d
def Arc.mapS (f : Int → Int) (a : Arc) : Arc := ⟨f a.frm, a.inp, a.out, f a.to⟩

theorem startsIn_more {L : List (List UInt8)} {x o : RulL} {u s : Nat} : ∀ {a : List RulL} {t : List Nat}, s ∈ startsIn L x a t → s ∈ startsIn L x (a ++ [o]) (t ++ [u])
  | [], _, h => by simp [startsIn] at h
  | _ :: _, [], h => by simp [startsIn] at h
  | o' :: r, s' :: t, h => by
    simp only [startsIn, List.cons_append] at h ⊢
    split
    · rename_i hb
      rw [if_pos hb, List.mem_cons] at h
      rcases h with rfl | h
      · exact List.mem_cons_self ..
      · exact List.mem_cons_of_mem _ (startsIn_more h)
    · rename_i hb
      rw [if_neg hb] at h
      exact startsIn_more h
theorem startsIn_mem {L : List (List UInt8)} {x : RulL} {s : Nat} : ∀ {a : List RulL} {t : List Nat}, s ∈ startsIn L x a t → s ∈ t
  | [], _, h => by simp [startsIn] at h
  | _ :: _, [], h => by simp [startsIn] at h
  | o' :: r, s' :: t, h => by
    simp only [startsIn] at h
    split at h
    · rw [List.mem_cons] at h
      rcases h with rfl | h
      · exact List.mem_cons_self ..
      · exact List.mem_cons_of_mem _ (startsIn_mem h)
    · exact List.mem_cons_of_mem _ (startsIn_mem h)
theorem statesFrom_ge : ∀ (l : List RulL) (k : Nat), k ≤ statesFrom k l
  | [], k => Nat.le_refl _
  | x :: r, k => by
    simp only [statesFrom]
    split
    · exact statesFrom_ge r k
    · exact Nat.le_trans (Nat.le_succ k) (statesFrom_ge r (k + 1))
theorem leads_lt : ∀ (l : List RulL) (k : Nat), 3 ≤ k → ∀ s ∈ leadsFrom k l, s < statesFrom k l
  | [], _, _, _, h => by simp [leadsFrom] at h
  | x :: r, k, hk, s, h => by
    simp only [leadsFrom, statesFrom] at h ⊢
    split
    · rename_i hx
      rw [if_pos hx, List.mem_cons] at h
      rcases h with rfl | h
      · have := statesFrom_ge r k
        split <;> omega
      · exact leads_lt r k hk s h
    · rename_i hx
      rw [if_neg hx, List.mem_cons] at h
      rcases h with rfl | h
      · exact statesFrom_ge r (s + 1)
      · exact leads_lt r (k + 1) (by omega) s h

theorem arcTo_more (x : RulL) {S base lead : Nat} (d j : Nat) (hb : S ≤ base) (hl : lead < S) : phi S d (arcTo x base lead j) = arcTo x (base + d) lead j := by
  unfold arcTo phi
  split
  · rw [if_pos (by omega)]
  · rw [if_neg (by omega)]; omega
theorem ruleArcs_more {x : RulL} {base lead : Nat} {st st' : List Nat} {S d : Nat} (hb : S ≤ base) (hl : lead < S) (hs : ∀ s ∈ st, s < S ∧ s ∈ st') {y : Arc} (hy : y ∈ ruleArcs x base lead st) :
    y.mapS (phi S d) ∈ ruleArcs x (base + d) lead st' := by
  unfold ruleArcs at hy ⊢
  simp only [List.mem_append, List.mem_map, List.mem_range] at hy ⊢
  rcases hy with ⟨s, hs', rfl⟩ | ⟨j, hj, rfl⟩
  · refine .inl ⟨s, (hs s hs').2, ?_⟩
    have h1 := (hs s hs').1
    have h2 : phi S d (s : Int) = s := by unfold phi; rw [if_pos (by omega)]
    simp only [arcAt, Arc.mapS, arcTo_more x d _ hb hl, h2]
  · refine .inr ⟨j, hj, ?_⟩
    have h2 : phi S d ((base : Int) + j) = ((base + d : Nat) : Int) + j := by unfold phi; rw [if_neg (by omega)]; omega
    simp only [arcAt, Arc.mapS, arcTo_more x d _ hb hl, h2]
theorem arcsFrom_more {L : List (List UInt8)} {all all' : List RulL} {leads leads' : List Nat} {S d u : Nat} {x : RulL} (hS : 2 ≤ S) (hst : ∀ z s, s ∈ startsIn L z all leads → s < S ∧ s ∈ startsIn L z all' leads') {y : Arc} :
    ∀ (r : List RulL) (t : List Nat) (base : Nat), S ≤ base → (∀ z ∈ r, 1 ≤ z.n) → (∀ s ∈ t, s < S) → y ∈ arcsFrom L all leads base r t → y.mapS (phi S d) ∈ arcsFrom L all' leads' (base + d) (r ++ [x]) (t ++ [u])
  | [], _, _, _, _, _, h => by simp [arcsFrom] at h
  | _ :: _, [], _, _, _, _, h => by simp [arcsFrom] at h
  | z :: r, l :: t, base, hb, hn, ht, h => by
    simp only [arcsFrom, List.cons_append, List.mem_append] at h ⊢
    have h1 := hn z (List.mem_cons_self ..)
    rcases h with h | h
    · refine .inl (ruleArcs_more hb (ht l (List.mem_cons_self ..)) (fun s hs => ?_) h)
      simp only [List.mem_cons] at hs ⊢
      rcases hs with rfl | rfl | hs
      · exact ⟨by omega, .inl rfl⟩
      · exact ⟨by omega, .inr (.inl rfl)⟩
      · exact ⟨(hst z s hs).1, .inr (.inr (hst z s hs).2)⟩
    · have := arcsFrom_more (x := x) (u := u) (d := d) hS hst r t (base + z.n - 1) (by omega) (fun z hz => hn z (List.mem_cons_of_mem _ hz)) (fun s hs => ht s (List.mem_cons_of_mem _ hs)) h
      rw [show base + d + z.n - 1 = base + z.n - 1 + d by omega]
      exact .inr this
/-- The arcs of all rules but the last one are, but for their states' numbers, arcs of all rules. -/
theorem compile_more (L : List (List UInt8)) (l : List RulL) (x : RulL) (hn : ∀ z ∈ l, 1 ≤ z.n) :
    ∃ d, ∀ y ∈ compileArcs L l, y.mapS (phi (statesFrom 3 l) d) ∈ compileArcs L (l ++ [x]) := by
  have h3 := statesFrom_ge l 3
  unfold compileArcs
  rw [leadsFrom_snoc, statesFrom_snoc]
  have hst : ∀ (u : Nat) (z : RulL) (s : Nat), s ∈ startsIn L z l (leadsFrom 3 l) → s < statesFrom 3 l ∧ s ∈ startsIn L z (l ++ [x]) (leadsFrom 3 l ++ [u]) :=
    fun u z s h => ⟨leads_lt l 3 (by omega) s (startsIn_mem h), startsIn_more h⟩
  by_cases hx : x.nxt = []
  · rw [if_pos hx, if_pos hx]
    exact ⟨0, fun y hy => arcsFrom_more (d := 0) (by omega) (hst _) l _ _ (Nat.le_refl _) hn (leads_lt l 3 (by omega)) hy⟩
  · rw [if_neg hx, if_neg hx]
    exact ⟨1, fun y hy => arcsFrom_more (d := 1) (by omega) (hst _) l _ _ (Nat.le_refl _) hn (leads_lt l 3 (by omega)) hy⟩

/-- A machine whose arcs, with other numbers of the states, are another one's. -/
structure Into (N M : Mach) (f : Int → Int) : Prop where
  start : f N.start = M.start
  arcs : ∀ y ∈ N.arcs, y.mapS f ∈ M.arcs
  final : ∀ s ∈ N.final, f s ∈ M.final
def Plc.mapS (f : Int → Int) (p : Plc) : Plc := ⟨f p.st, p.tx⟩
theorem Into.goes {N M : Mach} {f : Int → Int} (h : Into N M f) {c : Int} {p q : Plc} (hg : Goes N c p q) : Goes M c (p.mapS f) (q.mapS f) := by
  obtain ⟨a, ha, e1, e2, rfl⟩ := hg
  exact ⟨a.mapS f, h.arcs a ha, by simp [Arc.mapS, Plc.mapS, e1], e2, rfl⟩
theorem Into.cl {N M : Mach} {f : Int → Int} (h : Into N M f) {S T : Plc → Prop} (hS : ∀ p, S p → T (p.mapS f)) {p : Plc} (hp : Cl N S p) : Cl M T (p.mapS f) := by
  induction hp with
  | base h0 => exact .base (hS _ h0)
  | more _ hg ih => exact .more ih (h.goes hg)
theorem Into.reach {N M : Mach} {f : Int → Int} (h : Into N M f) (k : Nat) : ∀ (l : List UInt8), l.length = k → ∀ p, Reach N l p → Reach M l (p.mapS f) := by
  induction k with
  | zero =>
    intro l hl p hp
    obtain rfl := List.length_eq_zero_iff.1 hl
    rw [Reach_nil] at hp ⊢
    exact h.cl (fun q hq => by subst hq; simp [Plc.mapS, h.start]) hp
  | succ k ih =>
    intro l hl p hp
    have hne : l ≠ [] := by intro e; subst e; simp at hl
    obtain ⟨l', b, rfl⟩ : ∃ l' b, l = l' ++ [b] := ⟨l.dropLast, l.getLast hne, (List.dropLast_concat_getLast hne).symm⟩
    by_cases hb : b = 0
    · subst hb
      unfold Reach at hp
      rw [List.foldl_append] at hp
      simp at hp
    · rw [Reach_snoc _ _ _ hb] at hp ⊢
      have hl' : l'.length = k := by simpa using hl
      refine h.cl (fun q hq => ?_) hp
      unfold Setout at hq ⊢
      split
      · rename_i e; rw [if_pos e] at hq; exact ih l' hl' q hq
      · rename_i e; rw [if_neg e] at hq
        obtain ⟨q', h1, h2⟩ := hq
        exact ⟨_, ih l' hl' q' h1, h.goes h2⟩
theorem Into.result {N M : Mach} {f : Int → Int} (h : Into N M f) {x : List UInt8} {t : ByteArray} (hr : Result N x t) : Result M x t := by
  obtain ⟨h0, s, hs, hp⟩ := hr
  exact ⟨h0, f s, h.final s hs, h.reach _ x rfl _ hp⟩

theorem more_plain {R R' : Ruls} {A : Alph} {M N : Mach} {x : Rul} (hM : CompileOf R A M) (hN : CompileOf R' A N) (hl : R.list = R'.list ++ [x]) (hn : ∀ r ∈ R'.list, 1 ≤ r.l.n) {w : List UInt8} {t : ByteArray} (h : Result N w t) : Result M w t := by
  obtain ⟨d, hd⟩ := compile_more A.bls (R'.list.map Rul.l) x.l (fun z hz => by obtain ⟨r, hr, rfl⟩ := List.mem_map.1 hz; exact hn r hr)
  have h3 := statesFrom_ge (R'.list.map Rul.l) 3
  refine Into.result (f := phi (statesFrom 3 (R'.list.map Rul.l)) d) ⟨?_, fun y hy => ?_, fun s hs => ?_⟩ h
  · rw [hN.start, hM.start]; unfold phi; rw [if_pos (by omega)]
  · rw [hM.mem, hl, List.map_append]
    exact hd y ((hN.mem y).1 hy)
  · rw [hN.final] at hs
    rw [hM.final]
    simp only [List.mem_cons, List.not_mem_nil, or_false] at hs ⊢
    rcases hs with rfl | rfl
    · left; unfold phi; rw [if_pos (by omega)]
    · right; unfold phi; rw [if_pos (by omega)]
end Go.Proofs.YtielbaaaipkbdaaGreatDoor

/- Walk: the law CompileMore. -/
namespace Go.Proofs.YtielbaaaipkbdaaGreatDoor
open Go.RowKit Classical

/-- All rules but the last one. -/
def Ruls.less (R : Ruls) : Ruls := ⟨R.src, R.dst, R.list.dropLast⟩
theorem less_at {w : World} {B : Nat} {la : Option Addr} {lc : Nat} {R : Ruls} (h : RulsAt w B (.agg #[.string R.src, .string R.dst, .slice la R.list.length lc]) R) :
    RulsAt w B (.agg #[.string R.src, .string R.dst, .slice la R.less.list.length lc]) R.less := by
  obtain ⟨a, c, e, h1, h2, h3, h4, h5⟩ := h
  cases e
  refine ⟨la, lc, rfl, h1, h2, by simp [Ruls.less]; omega, fun r hr => h4 r (List.dropLast_subset _ hr), fun h0 => ?_⟩
  have hne : R.list ≠ [] := by intro e; simp [Ruls.less, e] at h0
  obtain ⟨b, off, e, hb, hc⟩ := h5 (by simp; exact List.length_pos_iff.2 hne)
  refine ⟨b, off, e, hb, fun i r hi j x hj => hc i r ?_ j x hj⟩
  simp only [Ruls.less, List.getElem?_map] at hi ⊢
  rw [Option.map_eq_some_iff] at hi ⊢
  obtain ⟨r', hr', e'⟩ := hi
  refine ⟨r', ?_, e'⟩
  rw [List.getElem?_dropLast] at hr'
  split at hr'
  · exact hr'
  · cases hr'
theorem less_valid {R : Ruls} {A B : Alph} (h : Valid11 R A B) (h2 : 2 ≤ R.list.length) : Valid11 R.less A B := by
  obtain ⟨⟨n1, n2, n3, n4, n5, n6⟩, a, b, e1, e2, l⟩ := h
  refine ⟨⟨n1, n2, by simp [Ruls.less]; omega, by simp [Ruls.less]; omega, fun r hr => n5 r (List.dropLast_subset _ hr), n6.sublist (List.dropLast_sublist _)⟩, a, b, e1, e2, fun r hr => l r (List.dropLast_subset _ hr)⟩
theorem less_more {R : Ruls} {A B : Alph} (hv : Valid11 R A B) (h2 : 2 ≤ R.list.length) {M N : Mach} (hM : CompileOf R A M) (hN : CompileOf R.less A N) {w : List UInt8} {t : ByteArray} (h : Result N w t) : Result M w t := by
  have hne : R.list ≠ [] := by intro e; simp [e] at h2
  refine more_plain (x := R.list.getLast hne) hM hN (List.dropLast_concat_getLast hne).symm (fun r hr => ?_) h
  exact (rul_n (hv.1.2.2.2.2.1 r (List.dropLast_subset _ hr))).2

theorem runs_ok {M : Mach} {x : List UInt8} {ts : List ByteArray} (h : RunsOf M x ts 0) {t : ByteArray} : t ∈ ts ↔ Result M x t := by
  rcases h with ⟨_, _, h⟩ | ⟨_, ⟨_, _, h⟩ | ⟨_, ⟨_, _, h⟩ | ⟨_, _, _, h⟩⟩⟩
  · cases h
  · cases h
  · cases h
  · exact h t
theorem runs_len {M : Mach} {x : List UInt8} {ts : List ByteArray} {err : Int} (h : RunsOf M x ts err) : ts.length ≤ 2000 := by
  rcases h with ⟨_, h, _⟩ | ⟨_, ⟨_, h, _⟩ | ⟨_, ⟨_, h, _⟩ | ⟨hf, _, hs, h⟩⟩⟩
  · subst h; simp
  · subst h; simp
  · subst h; simp
  · obtain ⟨ks, hk, hp⟩ := hf x.length (Nat.le_refl _)
    rw [List.take_length] at hp
    have h1 : ∀ t ∈ ts, t ∈ ks.map Plc.tx := fun t ht => by
      obtain ⟨_, s, _, hr⟩ := (h t).1 ht
      exact List.mem_map.2 ⟨_, hp _ hr, rfl⟩
    have hn : ts.Nodup := by
      have := hs.2
      unfold List.Nodup at this ⊢
      rw [List.pairwise_map] at this
      exact this.imp (fun hne e => hne (by rw [e]))
    have := nodup_len hn h1
    rw [List.length_map] at this
    omega

set_option maxRecDepth 100000 in
set_option maxHeartbeats 4000000 in
theorem law2_any (R : Ruls) (A B : Alph) (x : ByteArray) (hx : x.size ≤ maxLen) (la : Option Addr) (lc : Nat) (va vb : Value) (w : World) (hcap : R.list.length ≤ lc) (h : RulsAt w w.heap.size (.agg #[.string R.src, .string R.dst, .slice la R.list.length lc]) R) (ha : AlphAt w w.heap.size va A) (hb : AlphAt w w.heap.size vb B) :
    Calls Tryz.prog 4 #[.agg #[.string R.src, .string R.dst, .slice la R.list.length lc], va, vb, .string x] w fun e w' => e = .returned (.bool true) ∧ Below w.heap.size w w' := by
  have hR := h
  have hA := ha
  have hB := hb
  have hlen : R.list.length ≤ maxLen := by obtain ⟨_, _, _, _, _, h3, _⟩ := h; exact h3
  unfold maxLen at hlen
  clear h
  obtain ⟨fa, fc, ga, gc, rfl, -, -, -, -, -, -⟩ := ha
  obtain ⟨fa2, fc2, ga2, gc2, rfl, -, -, -, -, -, -⟩ := hb
  go_enter Tryz.func4, Tryz.ntmps4
  go_wp2_with fail
  generalize hW0 : (((w.alloc _).alloc _).alloc _) = W0
  have hw0 : Below w.heap.size w W0 := by rw [← hW0]; exact (((Below.refl _ _).alloc (Nat.le_refl _) _).alloc (by simp) _).alloc (by simp; omega) _
  have hsz : W0.heap.size = w.heap.size + 3 := by rw [← hW0]; simp
  have hbr : Box W0 w.heap.size [Value.string R.src, .string R.dst, .slice la R.list.length lc] := by
    rw [← hW0]; exact ((Box.new _ _ _).alloc (by simp) _).alloc (by simp; omega) _
  have hba : Box W0 (w.heap.size + 1) [Value.string A.name, .slice fa A.letters.length fc, .slice ga A.small.length gc] := by
    rw [← hW0]; have := (Box.new (w.alloc (.cells #[Value.string R.src, .string R.dst, .slice la R.list.length lc] 24)) [Value.string A.name, .slice fa A.letters.length fc, .slice ga A.small.length gc] 28)
    simp at this; exact this.alloc (by simp) _
  have hbb : Box W0 (w.heap.size + 2) [Value.string B.name, .slice fa2 B.letters.length fc2, .slice ga2 B.small.length gc2] := by
    rw [← hW0]; have := (Box.new ((w.alloc (.cells #[Value.string R.src, .string R.dst, .slice la R.list.length lc] 24)).alloc (.cells #[Value.string A.name, .slice fa A.letters.length fc, .slice ga A.small.length gc] 28)) [Value.string B.name, .slice fa2 B.letters.length fc2, .slice ga2 B.small.length gc2] 28)
    simp at this; exact this
  clear hW0
  have Hk := Lib.hid (fun wr (hbw : Below W0.heap.size W0 wr) => And.intro (hbr.below hbw (by omega)).c3 (And.intro (hba.below hbw (by omega)).c3 (hbb.below hbw (by omega)).c3))
  have Har := Lib.hid (fun wr (hbw : Below W0.heap.size W0 wr) => have hw := hw0.trans (hbw.mono hw0.size); And.intro ((hR.below hw (Nat.le_refl _)).more hw.size) (And.intro ((hA.below hw (Nat.le_refl _)).more hw.size) ((hB.below hw (Nat.le_refl _)).more hw.size)))
  have Hw0 := Lib.hid hw0
  clear hbr hba hbb hR hA hB hw0
  refine (head_ok W0).mono ?_
  rintro e w1 ⟨rfl, hb1⟩
  obtain ⟨⟨r0, r1, r2⟩, ⟨a0, a1, a2⟩, ⟨b0, b1, b2⟩⟩ := Hk.out w1 hb1
  go_wp2_with fail
  obtain ⟨h1, h2, h3⟩ := Har.out w1 hb1
  refine (few15_any R A B x hx _ _ _ w1 h1 h2 h3).mono ?_
  rintro e w2 ⟨rfl, hb2⟩
  have hb2' := hb1.trans (hb2.mono hb1.size)
  clear r0 r1 r2 a0 a1 a2 b0 b1 b2 h1 h2 h3 hb1 hb2
  by_cases hf : ¬ FewW R A B x
  · rw [decide_eq_false hf]
    clear hf
    go_wp2
    go_ret
    exact ⟨rfl, Hw0.out.trans (hb2'.mono Hw0.out.size)⟩
  rw [decide_eq_true (Classical.not_not.1 hf)]
  clear hf
  obtain ⟨⟨r0, r1, r2⟩, ⟨a0, a1, a2⟩, ⟨b0, b1, b2⟩⟩ := Hk.out w2 hb2'
  by_cases hl2 : R.list.length < 2
  · have d : decide ((R.list.length : Int) < 2) = true := by simp; omega
    have Hl := Lib.hid hl2
    clear hl2
    go_wp2
    go_ret
    exact ⟨rfl, Hw0.out.trans (hb2'.mono Hw0.out.size)⟩
  have d : decide ((R.list.length : Int) < 2) = false := by simp; omega
  have Hl := Lib.hid hl2
  clear hl2
  go_upto_region 5 with (fail)
  clear r0 r1 r2 a0 a1 a2 b0 b1 b2 d
  generalize hW3 : (w2.alloc _) = W3
  have k3 : Blk W3 w2.heap.size #[.string R.src, .string R.dst, .slice la R.list.length lc] 24 := by rw [← hW3]; exact Blk.new _ _ _
  have hb3 : Below w2.heap.size w2 W3 := by rw [← hW3]; exact (Below.refl _ _).alloc (Nat.le_refl _) _
  have hb3' := hb2'.trans (hb3.mono hb2'.size)
  have hs0 := hb2'.size
  clear hW3 hb3
  obtain ⟨⟨r0, r1, r2⟩, -, -⟩ := Hk.out W3 hb3'
  have l0 : W3.cell? ⟨w2.heap.size, 0, none⟩ = some (.string R.src) := k3.cell 0
  have l1 : W3.cell? ⟨w2.heap.size, 1, none⟩ = some (.string R.dst) := k3.cell 1
  have l2 : W3.cell? ⟨w2.heap.size, 2, none⟩ = some (.slice la R.list.length lc) := k3.cell 2
  have hl2 : 2 ≤ R.list.length := by have := Hl.out; omega
  have fr : W3.frozen? ⟨w2.heap.size, 2, none⟩ = false := k3.frozen 2
  go_upto_region 6 with (fail)
  clear r0 r1 r2 l0 l1 l2 fr
  generalize hW4 : World.setCell W3 _ _ = W4
  have k4 : Blk W4 w2.heap.size #[.string R.src, .string R.dst, .slice la (R.list.length - 1) lc] 24 := by rw [← hW4]; exact k3.set_ 2 _
  have hb4 : Below W0.heap.size W0 W4 := by rw [← hW4]; exact hb3'.setCell hs0 _
  clear hW4 k3 hb3' hb2' hs0
  obtain ⟨⟨r0, r1, r2⟩, ⟨a0, a1, a2⟩, ⟨b0, b1, b2⟩⟩ := Hk.out W4 hb4
  obtain ⟨h1, h2, h3⟩ := Har.out W4 hb4
  have H4 := Lib.hid (And.intro k4 hb4)
  have H123 := Lib.hid (And.intro h1 (And.intro h2 h3))
  clear k4 hb4 h1 h2 h3
  go_wp2_with fail
  refine (Compile_prog R A B _ _ _ W4 H123.out.1 H123.out.2.1 H123.out.2.2).mono ?_
  rintro e w5 ⟨v5, M, err, rfl, hm5, hb5, hno, hok⟩
  clear r0 r1 r2 a0 a1 a2 b0 b1 b2 H123
  have Hm5 := Lib.hid (And.intro hm5 (And.intro hno hok))
  obtain ⟨xa, xc, ya, yc, rfl, -, -, -, -⟩ := hm5
  clear hno hok
  go_upto_region 7 with (fail)
  generalize hW6 : (w5.alloc _) = W6
  have hb6 : Below w5.heap.size w5 W6 := by rw [← hW6]; exact (Below.refl _ _).alloc (Nat.le_refl _) _
  have k6 : Blk W6 w5.heap.size #[.int .i64 M.states, .int .i64 M.start, .slice xa M.final.length xc, .slice ya M.arcs.length yc] 33 := by rw [← hW6]; exact Blk.new _ _ _
  have hm6 := (Hm5.out.1.below hb6 (Nat.le_refl _)).more hb6.size
  have k46 := (H4.out.1.below hb5 H4.out.1.lt).below hb6 (Nat.lt_of_lt_of_le H4.out.1.lt hb5.size)
  have hB6 := H4.out.2.trans ((hb5.trans (hb6.mono hb5.size)).mono H4.out.2.size)
  have Hc5 := Lib.hid Hm5.out.2
  clear hW6 hb6 hb5 H4 Hm5
  obtain ⟨-, ⟨a0, a1, a2⟩, ⟨b0, b1, b2⟩⟩ := Hk.out W6 hB6
  have l0 : W6.cell? ⟨w2.heap.size, 0, none⟩ = some (.string R.src) := k46.cell 0
  have l1 : W6.cell? ⟨w2.heap.size, 1, none⟩ = some (.string R.dst) := k46.cell 1
  have l2 : W6.cell? ⟨w2.heap.size, 2, none⟩ = some (.slice la (R.list.length - 1) lc) := k46.cell 2
  obtain ⟨h1, h2, h3⟩ := Har.out W6 hB6
  have h1' := less_at h1
  rw [show R.less.list.length = R.list.length - 1 by simp [Ruls.less]] at h1'
  have H6 := Lib.hid (And.intro k6 (And.intro hm6 hB6))
  have H123 := Lib.hid (And.intro h1' (And.intro h2 h3))
  clear k6 hm6 hB6 k46 h1 h1' h2 h3
  go_wp2_with fail
  refine (Compile_prog R.less A B _ _ _ W6 H123.out.1 H123.out.2.1 H123.out.2.2).mono ?_
  rintro e w7 ⟨v7, N, err2, rfl, hm7, hb7, hno, hok⟩
  clear l0 l1 l2 a0 a1 a2 b0 b1 b2 H123
  have Hm7 := Lib.hid (And.intro hm7 (And.intro hno hok))
  obtain ⟨xa7, xc7, ya7, yc7, rfl, -, -, -, -⟩ := hm7
  clear hno hok
  go_upto_region 8 with (fail)
  generalize hW8 : (w7.alloc _) = W8
  have hb8 : Below w7.heap.size w7 W8 := by rw [← hW8]; exact (Below.refl _ _).alloc (Nat.le_refl _) _
  have k8 : Blk W8 w7.heap.size #[.int .i64 N.states, .int .i64 N.start, .slice xa7 N.final.length xc7, .slice ya7 N.arcs.length yc7] 33 := by rw [← hW8]; exact Blk.new _ _ _
  have hm8 := (Hm7.out.1.below hb8 (Nat.le_refl _)).more hb8.size
  have hb78 := hb7.trans (hb8.mono hb7.size)
  have k68 := H6.out.1.below hb78 H6.out.1.lt
  have hm68 := (H6.out.2.1.below hb78 (Nat.le_refl _)).more hb78.size
  have hB8 := H6.out.2.2.trans (hb78.mono H6.out.2.2.size)
  have Hc7 := Lib.hid Hm7.out.2
  have H8 := Lib.hid (And.intro k68 (And.intro hm68 (And.intro k8 (And.intro hm8 hB8))))
  clear hW8 hb8 hb7 k8 hm8 hb78 k68 hm68 hB8 Hm7 H6
  by_cases hv : Valid11 R A B
  case neg =>
    obtain ⟨rfl, -⟩ := Hc5.out.1 hv
    have hbF := Hw0.out.trans (H8.out.2.2.2.2.mono Hw0.out.size)
    clear hv
    go_wp2
    go_ret
    exact ⟨rfl, hbF⟩
  obtain ⟨rfl, hcM⟩ := Hc5.out.2 hv
  obtain ⟨rfl, hcN⟩ := Hc7.out.2 (less_valid hv hl2)
  have Hres := Lib.hid (fun (t : ByteArray) (hr : Result N (bl x) t) => less_more hv hl2 hcM hcN hr)
  clear Hc5 Hc7 hcM hcN hv
  go_upto_region 10 with (fail)
  have k8 := H8.out.1
  have m0 : W8.cell? ⟨w5.heap.size, 0, none⟩ = some (.int .i64 M.states) := k8.cell 0
  have m1 : W8.cell? ⟨w5.heap.size, 1, none⟩ = some (.int .i64 M.start) := k8.cell 1
  have m2 : W8.cell? ⟨w5.heap.size, 2, none⟩ = some (.slice xa M.final.length xc) := k8.cell 2
  have m3 : W8.cell? ⟨w5.heap.size, 3, none⟩ = some (.slice ya M.arcs.length yc) := k8.cell 3
  clear k8
  go_wp2_with fail
  refine (Runs_any M _ x hx W8 H8.out.2.1).mono ?_
  clear m0 m1 m2 m3
  rintro e w9 ⟨v9, xs, g, rfl, ⟨a9, c9', rfl, hrow9⟩, hb9, hro9⟩
  have H9 := Lib.hid (And.intro hrow9 (And.intro hro9 (And.intro (H8.out.2.2.1.below hb9 H8.out.2.2.1.lt) (And.intro ((H8.out.2.2.2.1.below hb9 (Nat.le_refl _)).more hb9.size) (H8.out.2.2.2.2.trans (hb9.mono H8.out.2.2.2.2.size))))))
  clear hrow9 hro9 hb9 H8
  go_upto_region 11 with (fail)
  have k9 := H9.out.2.2.1
  have m0 : w9.cell? ⟨w7.heap.size, 0, none⟩ = some (.int .i64 N.states) := k9.cell 0
  have m1 : w9.cell? ⟨w7.heap.size, 1, none⟩ = some (.int .i64 N.start) := k9.cell 1
  have m2 : w9.cell? ⟨w7.heap.size, 2, none⟩ = some (.slice xa7 N.final.length xc7) := k9.cell 2
  have m3 : w9.cell? ⟨w7.heap.size, 3, none⟩ = some (.slice ya7 N.arcs.length yc7) := k9.cell 3
  clear k9
  go_wp2_with fail
  refine (Runs_any N _ x hx w9 H9.out.2.2.2.1).mono ?_
  clear m0 m1 m2 m3
  rintro e wA ⟨vA, ys, h, rfl, ⟨aA, cA, rfl, hrowA⟩, hbA, hroA⟩
  have HA := Lib.hid (And.intro ((H9.out.1.below hbA (Nat.le_refl _)).more hbA.size) (And.intro H9.out.2.1 (And.intro hrowA (And.intro hroA (H9.out.2.2.2.2.trans (hbA.mono H9.out.2.2.2.2.size))))))
  clear hrowA hroA hbA H9
  have hys := runs_len HA.out.2.2.2.1
  have hxs := runs_len HA.out.2.1
  go_wp2_with fail
  go_loopw [19] (fun i wr => ∃ k : Nat, k ≤ ys.length ∧ i = .int .i64 k ∧ Below wA.heap.size wA wr) (fun i _ => ys.length - (intOf i).toNat)
  case atStart => exact ⟨0, Nat.zero_le _, rfl, Below.refl _ _⟩
  case round =>
    obtain ⟨k, hk, rfl, hbw⟩ := hrel
    have hbF := Hw0.out.trans ((HA.out.2.2.2.2.trans (hbw.mono HA.out.2.2.2.2.size)).mono Hw0.out.size)
    by_cases hka : k < ys.length
    · by_cases hg : g = 0
      · subst hg
        by_cases hh : h = 0
        · subst hh
          have hm := (runs_ok HA.out.2.1).2 (Hres.out _ ((runs_ok HA.out.2.2.2.1).1 (List.getElem_mem hka)))
          obtain ⟨b, o, rfl, hb, hc⟩ := HA.out.2.2.1.strs (by omega)
          have x0 := (hbw.cell (p := ⟨b, o + k, none⟩) hb).trans (hc k hka)
          clear hc
          have hrow := (HA.out.1.below hbw (Nat.le_refl _)).more hbw.size
          have hq := has_any xs a9 c9' ys[k] (by unfold maxLen; omega) wr hrow
          rw [decide_eq_true hm] at hq
          have Hq := Lib.hid hq
          clear hq hm hrow
          go_wp2_with fail
          refine Hq.out.mono ?_
          rintro e wB ⟨rfl, hbB⟩
          have hbB' := hbw.trans (hbB.mono hbw.size)
          clear Hq x0
          go_wp2
          exact ⟨⟨k + 1, by omega, by go_num, hbB'⟩, by simp [intOf]; omega⟩
        · have d1 : (h == 0) = false := by simp [hh]
          have d2 : decide (h = 0) = false := by simp [hh]
          go_wp2
          go_ret
          exact ⟨rfl, hbF⟩
      · have d1 : (g == 0) = false := by simp [hg]
        have d2 : decide (g = 0) = false := by simp [hg]
        go_wp2
        go_ret
        exact ⟨rfl, hbF⟩
    · go_wp2
      go_ret
      exact ⟨rfl, hbF⟩
end Go.Proofs.YtielbaaaipkbdaaGreatDoor
