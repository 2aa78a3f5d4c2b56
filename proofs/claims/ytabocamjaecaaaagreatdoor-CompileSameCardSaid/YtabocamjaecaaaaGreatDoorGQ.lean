/- P5 · P6 -/
import Derived.Test.YtabocamjaecaaaaGreatDoorSM
import Derived.Test.YtabocamjaecaaaaGreatDoorGP
import Derived.Test.YtabocamjaecaaaaGreatDoorGF
/- The law's sample: its rules and alphabets are valid; its machine. No program in sight. -/
namespace Go.Proofs.YtabocamjaecaaaaGreatDoor
open Go Classical

theorem bl_bs (l : List UInt8) : bl (bs l) = l := by simp [bl, bs]
theorem bs_size (l : List UInt8) : (bs l).size = l.length := by rw [← bl_length, bl_bs]
theorem bs_inj {l m : List UInt8} (h : bs l = bs m) : l = m := by rw [← bl_bs l, ← bl_bs m, h]

theorem sample_ten (n : List UInt8) (hn : nameB n = true) : Valid10 ⟨bs n, [bs [97], bs [98], bs [110]], [0, 1, 2]⟩ := by
 refine ⟨⟨by simpa [bl_bs] using hn, by simp, by simp, by simp, ?_, ?_, ?_, ?_⟩, ?_⟩
 ·intro l hl
  simp at hl
  rcases hl with rfl | rfl | rfl <;> (rw [bs_size, bl_bs]; exact ⟨by decide, by decide, by decide⟩)
 ·intro z hz
  simp at hz
  rcases hz with rfl | rfl | rfl <;> simp
 ·simp only [List.nodup_cons, List.mem_cons, List.not_mem_nil, or_false, not_or, List.nodup_nil, and_true]
  refine ⟨⟨fun h => ?_, fun h => ?_⟩, fun h => ?_, fun h => h⟩ <;> (have := bs_inj h; cases this)
 ·intro i z hi
  have h1 : i < 3 := (List.getElem?_eq_some_iff.1 hi).1
  have h2 : i = 0 ∨ i = 1 ∨ i = 2 := by omega
  rcases h2 with rfl | rfl | rfl <;> (simp at hi; subst hi; rfl)
 ·intro i k l m hne hl hm hp
  have h1 : i < 3 := (List.getElem?_eq_some_iff.1 hl).1
  have h2 : k < 3 := (List.getElem?_eq_some_iff.1 hm).1
  have h3 : i = 0 ∨ i = 1 ∨ i = 2 := by omega
  have h4 : k = 0 ∨ k = 1 ∨ k = 2 := by omega
  rcases h3 with rfl | rfl | rfl <;> rcases h4 with rfl | rfl | rfl <;> first | exact absurd rfl hne | (simp at hl hm; subst hl; subst hm; rw [bl_bs, bl_bs] at hp; simp at hp)

theorem sample_letters : LettersOk sampleA.bls [97] 3 ∧ LettersOk sampleA.bls [98] 3 ∧ LettersOk sampleA.bls [110] 3 ∧ LettersOk sampleA.bls [97, 98] 3 ∧ LettersOk sampleA.bls [98] 10 ∧ LettersOk sampleA.bls [] 10 ∧ LettersOk sampleA.bls [] 3 := by
 have h : sampleA.bls = [[97], [98], [110]] := by simp [sampleA, Alph.bls, bl_bs]
 rw [h]
 refine ⟨.inr ?_, .inr ?_, .inr ?_, .inr ?_, .inr ?_, .inl rfl, .inl rfl⟩ <;> decide
theorem sample_valid : Valid11 sampleR sampleA sampleB := by
 obtain ⟨h1, h2, h3, h4, h5, h6, h7⟩ := sample_letters
 refine ⟨⟨by simp only [sampleR, bl_bs]; decide, by simp only [sampleR, bl_bs]; decide, by simp [sampleR], by simp [sampleR], ?_, ?_⟩, sample_ten [112] (by decide), sample_ten [113] (by decide), rfl, rfl, ?_⟩
 ·intro r hr
  simp [sampleR] at hr
  rcases hr with rfl | rfl | rfl
  ·refine ⟨⟨?_, ?_, ?_⟩, ⟨?_, ?_, ?_⟩, ⟨?_, ?_, ?_⟩, ?_⟩ <;> simp only [bl_bs, bs_size] <;> decide
  ·refine ⟨⟨?_, ?_, ?_⟩, ⟨?_, ?_, ?_⟩, ⟨?_, ?_, ?_⟩, ?_⟩ <;> simp only [bl_bs, bs_size] <;> decide
  ·refine ⟨⟨?_, ?_, ?_⟩, ⟨?_, ?_, ?_⟩, ⟨?_, ?_, ?_⟩, ?_⟩ <;> simp only [bl_bs, bs_size] <;> decide
 ·simp only [sampleR, List.nodup_cons, List.mem_cons, List.not_mem_nil, or_false, not_or, List.nodup_nil, and_true]
  refine ⟨⟨fun h => ?_, fun h => ?_⟩, fun h => ?_, fun h => h⟩ <;> (have := bs_inj (congrArg Rul.src h); cases this)
 ·intro r hr
  simp [sampleR] at hr
  rcases hr with rfl | rfl | rfl
  ·exact ⟨by rw [bl_bs]; exact h1, by rw [bl_bs]; exact h2, by rw [bl_bs]; exact h6⟩
  ·exact ⟨by rw [bl_bs]; exact h3, by rw [bl_bs]; exact h4, by rw [bl_bs]; exact h5⟩
  ·exact ⟨by rw [bl_bs]; exact h2, by rw [bl_bs]; exact h7, by rw [bl_bs]; exact h6⟩
theorem sample_swapped : ¬ Valid11 sampleR sampleB sampleA := by
 intro h
 have := bs_inj h.2.2.2.1
 cases this

/-- The machine that the law's head wants. -/
def wantM : Mach := ⟨5, 0, [1, 2], [⟨0, 97, 98, 1⟩, ⟨0, 98, 0, 2⟩, ⟨0, 110, 97, 4⟩, ⟨1, 97, 98, 1⟩, ⟨1, 98, 0, 2⟩, ⟨1, 110, 97, 4⟩, ⟨3, 98, 0, 2⟩, ⟨4, 0, 98, 3⟩]⟩
theorem want_inc : Increasing wantM.arcs := by
 unfold Increasing wantM
 simp [Arc.lt]
theorem want_of {M : Mach} (h : CompileOf sampleR sampleA M) : M = wantM := by
 have hb : sampleA.bls = [[97], [98], [110]] := by simp [sampleA, Alph.bls, bl_bs]
 have hl : sampleR.list.map Rul.l = [⟨[97], [98], [], false⟩, ⟨[110], [97, 98], [98], false⟩, ⟨[98], [], [], true⟩] := by simp [sampleR, Rul.l, bl_bs]
 obtain ⟨m1, m2, m3, m4⟩ := M
 have e1 : m1 = 5 := h.states.trans (by rw [hl]; decide)
 have e2 : m2 = 0 := h.start
 have e3 : m3 = [1, 2] := h.final
 have e4 : m4 = wantM.arcs := h.inc.ext want_inc (fun y => (h.mem y).trans (by
  rw [hl, hb]
  have : compileArcs [[97], [98], [110]] [⟨[97], [98], [], false⟩, ⟨[110], [97, 98], [98], false⟩, ⟨[98], [], [], true⟩] = [⟨0, 97, 98, 1⟩, ⟨1, 97, 98, 1⟩, ⟨0, 110, 97, 4⟩, ⟨1, 110, 97, 4⟩, ⟨4, 0, 98, 3⟩, ⟨0, 98, 0, 2⟩, ⟨1, 98, 0, 2⟩, ⟨3, 98, 0, 2⟩] := by decide
  rw [this]
  simp only [wantM, List.mem_cons, List.not_mem_nil, or_false]
  constructor
  ·rintro (h | h | h | h | h | h | h | h) <;> simp [h]
  ·rintro (h | h | h | h | h | h | h | h) <;> simp [h]))
 rw [e1, e2, e3, e4]
 rfl
end Go.Proofs.YtabocamjaecaaaaGreatDoor

/- The law's sample: what its machine answers for two texts. No program in sight. -/
namespace Go.Proofs.YtabocamjaecaaaaGreatDoor
open Go Classical

theorem want_arc {a : Arc} (h : a ∈ wantM.arcs) : a = ⟨0, 97, 98, 1⟩ ∨ a = ⟨0, 98, 0, 2⟩ ∨ a = ⟨0, 110, 97, 4⟩ ∨ a = ⟨1, 97, 98, 1⟩ ∨ a = ⟨1, 98, 0, 2⟩ ∨ a = ⟨1, 110, 97, 4⟩ ∨ a = ⟨3, 98, 0, 2⟩ ∨ a = ⟨4, 0, 98, 3⟩ := by
 simpa [wantM] using h
theorem want_valid : ValidM wantM := by
 refine ⟨by simp [wantM], by simp [wantM], by simp [wantM, StateOk], by simp [wantM], ?_, by simp [wantM], ?_, want_inc⟩
 ·intro s hs
  simp [wantM] at hs
  rcases hs with rfl | rfl <;> simp [wantM, StateOk]
 ·intro a ha
  rcases want_arc ha with rfl | rfl | rfl | rfl | rfl | rfl | rfl | rfl <;> simp [wantM, StateOk, SymOk]
theorem want_way {s t : Int} (h : Way (Ed wantM) s t) : s = 4 ∧ t = 3 := by
 have hed : ∀ u v, Ed wantM u v → u = 4 ∧ v = 3 := by
  rintro u v ⟨a, ha, rfl⟩
  obtain ⟨h1, h2, h3⟩ := mem_runA.1 ha
  rcases want_arc h1 with rfl | rfl | rfl | rfl | rfl | rfl | rfl | rfl <;> simp at h2 h3 ⊢
  exact h2.symm
 induction h with
 | one h1 => exact hed _ _ h1
 | more _ h1 ih =>
  have := hed _ _ h1
  omega
theorem want_no : ¬ Circle wantM := by
 rintro ⟨s, hs⟩
 have := want_way hs
 omega

theorem after_bs (l : List UInt8) (c : Int) (hc : c ≠ 0) : afterB (bs l) c = bs (l ++ [c.toNat.toUInt8]) := by
 rw [afterB, if_neg hc]
 apply bl_inj
 rw [bl_bs]
 simp [bl, bs]
theorem after_bs0 (l : List UInt8) : afterB (bs l) 0 = bs l := by rw [afterB, if_pos rfl]

/-- What a closed list of places bounds. -/
theorem cl_sub {M : Mach} {S : Plc → Prop} {ks : List Plc} (h0 : ∀ p, S p → p ∈ ks) (h1 : ∀ p ∈ ks, ∀ a ∈ runA M.arcs p.st 0, stepA p a ∈ ks) {p : Plc} (h : Cl M S p) : p ∈ ks := by
 induction h with
 | base h => exact h0 _ h
 | more _ hg ih =>
  obtain ⟨a, ha, rfl⟩ := goes_iff.1 hg
  exact h1 _ ih a ha
theorem reach_sub {M : Mach} {l : List UInt8} {b : UInt8} (hb : b ≠ 0) {ks ks' : List Plc} (h : ∀ p, Reach M l p → p ∈ ks) (h0 : ∀ p ∈ ks, ∀ a ∈ runA M.arcs p.st (b.toNat : Int), stepA p a ∈ ks') (h1 : ∀ p ∈ ks', ∀ a ∈ runA M.arcs p.st 0, stepA p a ∈ ks') : ∀ p, Reach M (l ++ [b]) p → p ∈ ks' := by
 intro p hp
 rw [Reach_snoc M l b hb] at hp
 refine cl_sub (fun q hq => ?_) h1 hp
 unfold Setout at hq
 rw [if_neg (fun e => hb (by
  have : b.toNat = 0 := by omega
  exact UInt8.toNat_inj.1 this))] at hq
 obtain ⟨q', h2, hg⟩ := hq
 obtain ⟨a, ha, rfl⟩ := goes_iff.1 hg
 exact h0 q' (h q' h2) a ha
theorem reach_go {M : Mach} {l : List UInt8} {b : UInt8} (hb : b ≠ 0) {p : Plc} {a : Arc} (h : Reach M l p) (ha : a ∈ M.arcs) (h1 : a.frm = p.st) (h2 : a.inp = b.toNat) : Reach M (l ++ [b]) (stepA p a) := by
 rw [Reach_snoc M l b hb]
 refine .base ?_
 unfold Setout
 rw [if_neg (fun e => hb (by
  have : b.toNat = 0 := by omega
  exact UInt8.toNat_inj.1 this))]
 exact ⟨p, h, goes_iff.2 ⟨a, mem_runA.2 ⟨ha, h1, h2⟩, rfl⟩⟩
theorem reach_still {M : Mach} {l : List UInt8} {b : UInt8} (hb : b ≠ 0) {p : Plc} {a : Arc} (h : Reach M (l ++ [b]) p) (ha : a ∈ M.arcs) (h1 : a.frm = p.st) (h2 : a.inp = 0) : Reach M (l ++ [b]) (stepA p a) := by
 rw [Reach_snoc M l b hb] at h ⊢
 exact .more h (goes_iff.2 ⟨a, mem_runA.2 ⟨ha, h1, h2⟩, rfl⟩)

def k0 : List Plc := [⟨0, bs []⟩]
def k1 : List Plc := [⟨1, bs [98]⟩]
def k2 : List Plc := [⟨4, bs [98, 97]⟩, ⟨3, bs [98, 97, 98]⟩]
def k3 : List Plc := [⟨2, bs [98, 97, 98]⟩]
theorem want_r0 : ∀ p, Reach wantM [] p → p ∈ k0 := fun p hp => by
 rw [Reach_nil] at hp
 refine cl_sub (fun q hq => by rw [hq]; simp [k0, wantM, bs]) (fun q hq a ha => ?_) hp
 simp [k0] at hq
 subst hq
 obtain ⟨h1, h2, h3⟩ := mem_runA.1 ha
 rcases want_arc h1 with rfl | rfl | rfl | rfl | rfl | rfl | rfl | rfl <;> simp at h2 h3
theorem want_r1 : ∀ p, Reach wantM [97] p → p ∈ k1 := by
 refine reach_sub (l := []) (by decide) want_r0 (fun q hq a ha => ?_) (fun q hq a ha => ?_)
 ·simp [k0] at hq
  subst hq
  obtain ⟨h1, h2, h3⟩ := mem_runA.1 ha
  rcases want_arc h1 with rfl | rfl | rfl | rfl | rfl | rfl | rfl | rfl <;> simp at h2 h3
  rw [stepA, after_bs _ _ (by decide)]; simp [k1]
 ·simp [k1] at hq
  subst hq
  obtain ⟨h1, h2, h3⟩ := mem_runA.1 ha
  rcases want_arc h1 with rfl | rfl | rfl | rfl | rfl | rfl | rfl | rfl <;> simp at h2 h3
theorem want_r2 : ∀ p, Reach wantM [97, 110] p → p ∈ k2 := by
 refine reach_sub (l := [97]) (by decide) want_r1 (fun q hq a ha => ?_) (fun q hq a ha => ?_)
 ·simp [k1] at hq
  subst hq
  obtain ⟨h1, h2, h3⟩ := mem_runA.1 ha
  rcases want_arc h1 with rfl | rfl | rfl | rfl | rfl | rfl | rfl | rfl <;> simp at h2 h3
  rw [stepA, after_bs _ _ (by decide)]; simp [k2]
 ·simp [k2] at hq
  obtain ⟨h1, h2, h3⟩ := mem_runA.1 ha
  rcases hq with rfl | rfl
  ·rcases want_arc h1 with rfl | rfl | rfl | rfl | rfl | rfl | rfl | rfl <;> simp at h2 h3
   rw [stepA, after_bs _ _ (by decide)]; simp [k2]
  ·rcases want_arc h1 with rfl | rfl | rfl | rfl | rfl | rfl | rfl | rfl <;> simp at h2 h3
theorem want_r3 : ∀ p, Reach wantM [97, 110, 98] p → p ∈ k3 := by
 refine reach_sub (l := [97, 110]) (by decide) want_r2 (fun q hq a ha => ?_) (fun q hq a ha => ?_)
 ·simp [k2] at hq
  obtain ⟨h1, h2, h3⟩ := mem_runA.1 ha
  rcases hq with rfl | rfl
  ·rcases want_arc h1 with rfl | rfl | rfl | rfl | rfl | rfl | rfl | rfl <;> simp at h2 h3
  ·rcases want_arc h1 with rfl | rfl | rfl | rfl | rfl | rfl | rfl | rfl <;> simp at h2 h3
   rw [stepA, after_bs0]; simp [k3]
 ·simp [k3] at hq
  subst hq
  obtain ⟨h1, h2, h3⟩ := mem_runA.1 ha
  rcases want_arc h1 with rfl | rfl | rfl | rfl | rfl | rfl | rfl | rfl <;> simp at h2 h3
theorem want_goes : Reach wantM [97, 110, 98] ⟨2, bs [98, 97, 98]⟩ := by
 have a0 : Reach wantM [] ⟨0, bs []⟩ := by rw [Reach_nil]; exact .base (by simp [wantM, bs])
 have a1 := reach_go (l := []) (b := 97) (by decide) (a := ⟨0, 97, 98, 1⟩) a0 (by simp [wantM]) rfl rfl
 rw [stepA, after_bs _ _ (by decide)] at a1
 have a2 := reach_go (b := 110) (by decide) (a := ⟨1, 110, 97, 4⟩) a1 (by simp [wantM]) rfl rfl
 rw [stepA, after_bs _ _ (by decide)] at a2
 have a3 := reach_still (by decide) (a := ⟨4, 0, 98, 3⟩) a2 (by simp [wantM]) rfl rfl
 rw [stepA, after_bs _ _ (by decide)] at a3
 have a4 := reach_go (b := 98) (by decide) (a := ⟨3, 98, 0, 2⟩) a3 (by simp [wantM]) rfl rfl
 rw [stepA, after_bs0] at a4
 exact a4
theorem want_few {l : List UInt8} (hl : l <+: [97, 110, 98]) : FewPl (Reach wantM l) := by
 have h : l = [] ∨ l = [97] ∨ l = [97, 110] ∨ l = [97, 110, 98] := by
  obtain ⟨r, hr⟩ := hl
  match l, hr with
  | [], _ => exact .inl rfl
  | [a], h => simp at h; exact .inr (.inl (by rw [h.1]))
  | [a, b], h => simp at h; exact .inr (.inr (.inl (by rw [h.1, h.2.1])))
  | [a, b, c], h => simp at h; exact .inr (.inr (.inr (by rw [h.1, h.2.1, h.2.2.1])))
  | a :: b :: c :: d :: e, h => simp at h
 rcases h with rfl | rfl | rfl | rfl
 ·exact ⟨k0, by simp [k0], want_r0⟩
 ·exact ⟨k1, by simp [k1], want_r1⟩
 ·exact ⟨k2, by simp [k2], want_r2⟩
 ·exact ⟨k3, by simp [k3], want_r3⟩
theorem want_ok {x : List UInt8} (hx : x <+: [97, 110, 98]) {ts : List ByteArray} {err : Int} (h : RunsOf wantM x ts err) : err = 0 ∧ SortedB ts ∧ ∀ t, t ∈ ts ↔ Result wantM x t := by
 have hl : x.length ≤ 3 := by have := hx.length_le; simpa using this
 rcases h with ⟨h, _⟩ | ⟨_, ⟨h, _⟩ | ⟨_, ⟨⟨i, _, hi⟩, _⟩ | ⟨_, h1, h2, h3⟩⟩⟩
 ·exact absurd ⟨want_valid, by omega⟩ h
 ·exact absurd h want_no
 ·exact absurd (want_few ((List.take_prefix i x).trans hx)) hi
 ·exact ⟨h1, h2, h3⟩
theorem want_anb {ts : List ByteArray} {err : Int} (h : RunsOf wantM [97, 110, 98] ts err) : err = 0 ∧ ts = [bs [98, 97, 98]] := by
 obtain ⟨h1, h2, h3⟩ := want_ok (List.prefix_refl _) h
 refine ⟨h1, h2.ext ⟨by simp, by simp⟩ (fun t => (h3 t).trans ?_)⟩
 simp only [List.mem_singleton]
 constructor
 ·rintro ⟨_, s, hs, hr⟩
  have := want_r3 _ hr
  simp [k3] at this
  exact this.2
 ·rintro rfl
  exact ⟨by simp, 2, by simp [wantM], want_goes⟩
theorem want_an {ts : List ByteArray} {err : Int} (h : RunsOf wantM [97, 110] ts err) : err = 0 ∧ ts = [] := by
 obtain ⟨h1, h2, h3⟩ := want_ok ⟨[98], rfl⟩ h
 refine ⟨h1, List.eq_nil_iff_forall_not_mem.2 (fun t ht => ?_)⟩
 obtain ⟨_, s, hs, hr⟩ := (h3 t).1 ht
 have := want_r2 _ hr
 simp [wantM] at hs
 simp [k2] at this
 omega
end Go.Proofs.YtabocamjaecaaaaGreatDoor
