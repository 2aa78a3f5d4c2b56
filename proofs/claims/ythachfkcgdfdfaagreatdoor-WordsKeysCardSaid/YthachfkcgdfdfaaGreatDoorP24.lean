/- UE · UH · BN · BW -/
import Derived.Test.YthachfkcgdfdfaaGreatDoorP22
import Derived.Test.YthachfkcgdfdfaaGreatDoorP23
/- Plain words: the laws of keys: folded words, the base script. No program in sight. -/
namespace Go.Proofs.YthachfkcgdfdfaaGreatDoor
open Go Classical

section
variable {b : Brid} {lang : ByteArray} {i : Int} {t : List UInt8}
theorem NameOk.parts (h : NameOk b lang i t) {A : Alph} (hA : b.scripts[i.toNat]? = some A) : (∀ p ∈ partsOf t, p ≠ [] ∧ 32 ∉ p) ∧ wordsOf t = partsOf t ∧ 1 ≤ (wordsOf t).length ∧ (wordsOf t).length ≤ 6 := by
 have hv := h.brid.scr.alph A (List.mem_of_getElem? hA)
 have h1 : ∀ p ∈ partsOf t, p ≠ [] ∧ 32 ∉ p := fun p hp => (word_no_blank hv (h.word A hA p hp)).symm
 have h2 : wordsOf t = partsOf t := by
  rw [wordsOf_parts, List.filter_eq_self]
  intro p hp
  simpa using (h1 p hp).1
 refine ⟨h1, h2, ?_, by rw [h2]; exact h.few⟩
 rw [h2]
 exact List.length_pos_iff.2 (partsGo_ne t [])
theorem NameOk.has (h : NameOk b lang i t) : ∃ A, b.scripts[i.toNat]? = some A := by
 have := h.script
 exact ⟨_, List.getElem?_eq_getElem (by omega)⟩
end
end Go.Proofs.YthachfkcgdfdfaaGreatDoor
/- Plain words: the examples of layer 17's head: a bridge, a key, abbreviations. No program in sight. -/
namespace Go.Proofs.YthachfkcgdfdfaaGreatDoor
open Go Classical

def exB : Brid := ⟨[latinA, upperA], [exR]⟩
def enS : ByteArray := bs [101, 110]
def canNa : List UInt8 := [67, 65, 78, 32, 78, 65]
theorem upper_bls : upperA.bls = [[65], [78], [67]] := singles_bls _ _
theorem latin_bls : latinA.bls = smalls.map (fun c => [c]) := singles_bls _ _
theorem exB_valid : ValidB exB := by
 refine ⟨⟨by decide, by decide, ?_, ?_⟩, ⟨?_, ?_⟩, ?_⟩
 ·intro A hA
  simp only [exB, List.mem_cons, List.not_mem_nil, or_false] at hA
  rcases hA with rfl | rfl
  ·exact latin_ok
  ·exact upper_ok
 ·show ([latinA.name, upperA.name] : List ByteArray).Nodup
  have : latinA.name ≠ upperA.name := by decide
  simp [this]
 ·intro r hr
  obtain rfl := List.mem_singleton.1 hr
  exact ⟨1, 0, upperA, latinA, ⟨rfl, rfl⟩, ⟨rfl, rfl⟩, by decide, ex_ok⟩
 ·show ([(exR.src, exR.dst)] : List (ByteArray × ByteArray)).Nodup
  simp
 ·intro i A B hi hA hB
  have : i = 1 := by
   have := (List.getElem?_eq_some_iff.1 hA).1
   simp only [exB, List.length_cons, List.length_nil] at this; omega
  subst this
  obtain rfl : upperA = A := Option.some.inj hA
  obtain rfl : latinA = B := Option.some.inj hB
  exact ⟨exR, List.mem_singleton.2 rfl, rfl, rfl⟩
theorem upper_read {ls : List (List UInt8)} (h1 : ls ≠ []) (h2 : ∀ m ∈ ls, m = [65] ∨ m = [78] ∨ m = [67]) (h3 : ls.length ≤ 24) : (readL upperA.bls ls.flatten).err = 0 ∧ foldL upperA ls.flatten = ls.flatten := by
 have h2' : ∀ m ∈ ls, m ∈ upperA.bls := fun m hm => by
  rw [upper_bls]
  rcases h2 m hm with rfl | rfl | rfl <;> simp
 obtain ⟨q1, q2⟩ := read_of_cat (told_of upper_ok) h1 h2' h3
 refine ⟨q1, (fold_cat q2).trans ?_⟩
 congr 1
 refine (List.map_congr_left (fun m hm => ?_)).trans (List.map_id _)
 have hd : smallOf upperA m = txt [[65], [78], [67]] (upperA.small[([[65], [78], [67]] : List (List UInt8)).idxOf m]?.getD 0) := by
  unfold smallOf
  rw [upper_bls]
 rw [hd]
 rcases h2 m hm with rfl | rfl | rfl <;> rfl
theorem latin_read {ls : List (List UInt8)} (h1 : ls ≠ []) (h2 : ∀ m ∈ ls, ∃ c ∈ smalls, m = [c]) (h3 : ls.length ≤ 24) : (readL latinA.bls ls.flatten).err = 0 := by
 refine (read_of_cat (told_of latin_ok) h1 (fun m hm => ?_) h3).1
 rw [latin_bls]
 obtain ⟨c, hc, rfl⟩ := h2 m hm
 exact List.mem_map.2 ⟨c, hc, rfl⟩
theorem ex_rule : RuleIn exB 1 0 exR := ⟨List.mem_singleton.2 rfl, upperA, latinA, ⟨rfl, rfl⟩, ⟨rfl, rfl⟩⟩
theorem ex_write {w t : List UInt8} {ls : List (List UInt8)} (h1 : ls ≠ []) (h2 : ∀ m ∈ ls, m = [65] ∨ m = [78] ∨ m = [67]) (h3 : ls.length ≤ 24) (hf : ls.flatten = w) (hr : ∀ ts e, RunsOf exM w ts e → e = 0 ∧ ts = [bs t]) (hw : (readL latinA.bls t).err = 0) {s : ByteArray} {e : Int} (h : BaseW exB 1 w s e) : e = 0 ∧ bl s = t := by
 obtain ⟨q1, q2⟩ := upper_read h1 h2 h3
 rw [hf] at q1 q2
 obtain ⟨M, e1, hM, h⟩ := h
 have hMM : M = exM ∧ e1 = 0 := by
  rcases hM with ⟨hn, _⟩ | ⟨_, i, j, hi, hj, _, _, hm⟩
  ·exact absurd ⟨exB_valid, by decide, by decide, by decide, by decide⟩ hn
  ·obtain rfl : i = 1 := by omega
   obtain rfl : j = 0 := by omega
   rcases hm with ⟨_, hmade, rfl⟩ | ⟨hn, _⟩
   ·obtain ⟨A, hA, ⟨e, _⟩ | ⟨_, r, hr, hc⟩⟩ := hmade
    ·exact absurd e (by decide)
    ·obtain rfl : upperA = A := Option.some.inj hA
     obtain rfl := List.mem_singleton.1 hr.1
     exact ⟨ex_of hc, rfl⟩
   ·exact absurd (.inr ⟨exR, ex_rule⟩) hn
 obtain ⟨rfl, rfl⟩ := hMM
 rcases h with ⟨h, _⟩ | ⟨_, A, B, hA, hB, f, e2, hF, h⟩
 ·exact absurd rfl h
 obtain rfl : upperA = A := Option.some.inj hA
 obtain rfl : latinA = B := Option.some.inj hB
 rcases hF with ⟨_, _, hbl, rfl⟩ | ⟨hn, _⟩
 case inr => exact absurd ⟨upper_ok, by rw [bl_bs]; exact q1⟩ hn
 rw [bl_bs, q2] at hbl
 rcases h with ⟨h, _⟩ | ⟨_, ts, e3, hR, h⟩
 ·exact absurd rfl h
 rw [hbl] at hR
 obtain ⟨rfl, rfl⟩ := hr _ _ hR
 rcases h with ⟨h, _⟩ | ⟨_, hO⟩
 ·exact absurd rfl h
 have hfil : [bs t].filter (fun t => decide (WordOf latinA t)) = [bs t] := by
  rw [List.filter_cons_of_pos]
  ·rfl
  ·rw [decide_eq_true_iff]; show (readL latinA.bls (bl (bs t))).err = 0; rw [bl_bs]; exact hw
 unfold OnlyOf at hO
 rw [hfil] at hO
 rcases hO with ⟨h, _⟩ | ⟨h, rfl⟩ | ⟨h, _⟩
 ·cases h
 ·obtain rfl : bs t = s := by simpa using h
  exact ⟨rfl, bl_bs _⟩
 ·simp at h
theorem small_mem' : (99 : UInt8) ∈ smalls ∧ (104 : UInt8) ∈ smalls ∧ (97 : UInt8) ∈ smalls ∧ (110 : UInt8) ∈ smalls := by decide
theorem ex_can_w {s : ByteArray} {e : Int} (h : BaseW exB 1 [67, 65, 78] s e) : e = 0 ∧ bl s = [99, 104, 97, 110] :=
 ex_write (ls := [[67], [65], [78]]) (by simp) (by simp) (by decide) rfl (fun ts e q => ex_runs_can q) (latin_read (ls := [[99], [104], [97], [110]]) (by simp) (by simp [small_mem']) (by decide)) h
theorem ex_na_w {s : ByteArray} {e : Int} (h : BaseW exB 1 [78, 65] s e) : e = 0 ∧ bl s = [110, 97] :=
 ex_write (ls := [[78], [65]]) (by simp) (by simp) (by decide) rfl (fun ts e q => ex_runs_na q) (latin_read (ls := [[110], [97]]) (by simp) (by simp [small_mem']) (by decide)) h
theorem ex_name : NameOk exB enS 1 canNa := by
 refine ⟨exB_valid, by decide, by decide, by decide, fun A hA p hp => ?_⟩
 obtain rfl : upperA = A := Option.some.inj hA
 have : p = [67, 65, 78] ∨ p = [78, 65] := by
  have : partsOf canNa = [[67, 65, 78], [78, 65]] := rfl
  rw [this] at hp; simpa using hp
 rcases this with rfl | rfl
 ·exact (upper_read (ls := [[67], [65], [78]]) (by simp) (by simp) (by decide)).1
 ·exact (upper_read (ls := [[78], [65]]) (by simp) (by simp) (by decide)).1
theorem ex_name_two : ¬ NameOk exB enS 1 [67, 65, 78, 32, 32, 78, 65] := fun h => by
 have := h.word upperA rfl [] (by
  have : partsOf [67, 65, 78, 32, 32, 78, 65] = [[67, 65, 78], [], [78, 65]] := rfl
  rw [this]; simp)
 revert this
 unfold readL
 rw [if_pos rfl]
 decide
theorem ex_name_base : NameOk exB enS 0 [110, 97] := by
 refine ⟨exB_valid, by decide, by decide, by decide, fun A hA p hp => ?_⟩
 obtain rfl : latinA = A := Option.some.inj hA
 obtain rfl : p = [110, 97] := by
  have : partsOf [110, 97] = [[110, 97]] := rfl
  rw [this] at hp; simpa using hp
 exact latin_read (ls := [[110], [97]]) (by simp) (by simp [small_mem']) (by decide)
theorem ex_key {s : List UInt8} {e : Int} (h : KeyOut exB enS 1 canNa s e) : e = 0 ∧ s = [99, 104, 97, 110, 32, 110, 97] := by
 rcases h with ⟨hn, _⟩ | ⟨_, outs, e1, hr, h⟩
 ·exact absurd ex_name hn
 have hw : wordsOf canNa = [[67, 65, 78], [78, 65]] := rfl
 rw [hw] at hr
 rcases hr with ⟨rfl, hl, ho⟩ | ⟨he, _, k, w, t, hk, _, hb⟩
 ·match outs, hl with
  | [o1, o2], _ =>
   have h1 := (ex_can_w (ho 0 _ o1 rfl rfl)).2
   have h2 := (ex_na_w (ho 1 _ o2 rfl rfl)).2
   have hj : joinB ([o1, o2].map bl) = [99, 104, 97, 110, 32, 110, 97] := by
    simp only [List.map_cons, List.map_nil, h1, h2]; rfl
   rw [hj] at h
   rcases h with ⟨h, _⟩ | ⟨_, h, _⟩ | ⟨_, _, rfl, rfl⟩
   ·exact absurd rfl h
   ·simp at h
   ·exact ⟨rfl, rfl⟩
 ·exfalso
  match k, hk with
  | 0, hk =>
   obtain rfl : [67, 65, 78] = w := by simpa using hk
   exact he (ex_can_w hb).1
  | 1, hk =>
   obtain rfl : [78, 65] = w := by simpa using hk
   exact he (ex_na_w hb).1
  | k + 2, hk => simp at hk

def stS : ByteArray := bs [115, 116]
def nS : ByteArray := bs [110]
def streetS : ByteArray := bs [115, 116, 114, 101, 101, 116]
def saintS : ByteArray := bs [115, 97, 105, 110, 116]
def noS : ByteArray := bs [110, 111]
def exS : List Sht := [⟨enS, stS, streetS, 1⟩, ⟨enS, stS, saintS, 2⟩, ⟨enS, nS, noS, 3⟩]
def exW : List (List ByteArray × Int) := [([stS, nS], 0), ([streetS, nS], 1), ([saintS, nS], 2), ([stS, noS], 3), ([streetS, noS], 4), ([saintS, noS], 5)]
theorem bs_ne {a b : List UInt8} (h : a ≠ b) : bs a ≠ bs b := fun e => h (by have := congrArg bl e; rwa [bl_bs, bl_bs] at this)
theorem ne1 : stS ≠ streetS := bs_ne (by decide)
theorem ne2 : stS ≠ saintS := bs_ne (by decide)
theorem ne3 : streetS ≠ saintS := bs_ne (by decide)
theorem ne4 : nS ≠ stS := bs_ne (by decide)
theorem ne5 : nS ≠ noS := bs_ne (by decide)
theorem dense_bs {l : List UInt8} {b : Nat} (h1 : denB l = true) (h2 : 1 ≤ l.length) (h3 : l.length ≤ b) : Dense (bs l) b := by
 have : (bs l).size = l.length := by rw [← bl_length, bl_bs]
 exact ⟨by rw [bl_bs]; exact h1, by omega, by omega⟩
theorem exS_proper : Proper exS := by
 refine ⟨by decide, fun s hs => ?_, ?_⟩
 ·simp only [exS, List.mem_cons, List.not_mem_nil, or_false] at hs
  have hen : nameB (bl enS) = true := by unfold enS; rw [bl_bs]; decide
  rcases hs with rfl | rfl | rfl
  ·exact ⟨hen, dense_bs (by decide) (by decide) (by decide), dense_bs (by decide) (by decide) (by decide), by decide, by decide⟩
  ·exact ⟨hen, dense_bs (by decide) (by decide) (by decide), dense_bs (by decide) (by decide) (by decide), by decide, by decide⟩
  ·exact ⟨hen, dense_bs (by decide) (by decide) (by decide), dense_bs (by decide) (by decide) (by decide), by decide, by decide⟩
 ·simp only [exS, List.nodup_cons, List.mem_cons, List.not_mem_nil, or_false, Sht.mk.injEq, not_or]
  simp [ne3, ne4.symm]
theorem exS_plain : Plain [stS, nS] := by
 refine ⟨by decide, by decide, fun w hw => ?_⟩
 simp only [List.mem_cons, List.not_mem_nil, or_false] at hw
 rcases hw with rfl | rfl
 ·exact dense_bs (by decide) (by decide) (by decide)
 ·exact dense_bs (by decide) (by decide) (by decide)
theorem chs_st : chs exS stS = [(stS, 0), (streetS, 1), (saintS, 2)] := by
 simp [chs, exS, putC, ne4, ne1.symm, ne2.symm, ne3.symm]
theorem chs_n : chs exS nS = [(nS, 0), (noS, 3)] := by
 simp [chs, exS, putC, ne4.symm, ne5.symm]
theorem exW_spell : SpellOf exS [stS, nS] exW 0 := by
 have hc : chsW exS [stS, nS] = [[(stS, 0), (streetS, 1), (saintS, 2)], [(nS, 0), (noS, 3)]] := by
  unfold chsW
  simp only [List.map_cons, List.map_nil, chs_st, chs_n]
 refine .inr (.inr ⟨⟨exS_proper, exS_plain⟩, by rw [hc]; decide, rfl, ?_, by rw [hc]; rfl, fun x => ?_⟩)
 ·simp [SortedX, exW, ltX]
 ·have hm : x ∈ exts (chsW exS [stS, nS]) [] 0 ↔ ∃ ps, Picks (chsW exS [stS, nS]) ps ∧ x = (ps.map (·.1), sumC ps) := by
   rw [mem_exts]
   simp
  rw [← hm, hc]
  simp only [exts, exW, List.flatMap_cons, List.flatMap_nil, List.append_nil, List.mem_cons, List.mem_append, List.not_mem_nil, or_false]
  simp only [List.nil_append, List.cons_append]
  constructor
  ·rintro (h | h | h | h | h | h) <;> simp [h]
  ·rintro h
   simp at h
   rcases h with (h | h) | (h | h) | h | h <;> simp [h]
theorem ex_spell {all : List (List ByteArray × Int)} {e : Int} (h : SpellOf exS [stS, nS] all e) : all = exW ∧ e = 0 := SpellOf.same (fun _ _ _ => Iff.rfl) Iff.rfl h exW_spell
end Go.Proofs.YthachfkcgdfdfaaGreatDoor
/- Walk: bridge.Machine, towards the base script. -/
namespace Go.Proofs.YthachfkcgdfdfaaGreatDoor
open Go.RowKit Classical

def MachinePost (b : Brid) (x y : Int) (w : World) (e : Ending) (w' : World) : Prop :=
 ∃ v M err, e = .returned (.tuple #[v, .int .i64 err]) ∧ MachAt w' w'.heap.size v M ∧ MachineOut b x y M err ∧ Below w.heap.size w w'
theorem zero_at (w : World) (B : Nat) : MachAt w B (.agg #[.int .i64 0, .int .i64 0, .slice none 0 0, .slice none 0 0]) zeroM :=
 ⟨none, 0, none, 0, rfl, Nat.zero_le _, Nat.zero_le _, fun h => by simp [zeroM, nums] at h, fun h => by simp [zeroM, flat] at h⟩
theorem zero_into {w : World} {b : Nat} {t : TypeId} (hB : Blk w b #[.int .i64 0, .int .i64 0, .slice none 0 0, .slice none 0 0] t) {W : World}
  (hW : W = (((w.setCell ⟨b, 0, none⟩ (.int .i64 0)).setCell ⟨b, 1, none⟩ (.int .i64 0)).setCell ⟨b, 2, none⟩ (.slice none 0 0)).setCell ⟨b, 3, none⟩ (.slice none 0 0)) : Blk W b #[.int .i64 0, .int .i64 0, .slice none 0 0, .slice none 0 0] t := by
 subst hW
 have := (((hB.set_ 0 (.int .i64 0)).set_ 1 (.int .i64 0)).set_ 2 (.slice none 0 0)).set_ 3 (.slice none 0 0)
 simpa using this
theorem set4_below {w w1 : World} (h : Below w.heap.size w w1) {b : Nat} (hb : w.heap.size ≤ b) (u0 u1 u2 u3 : Value) : Below w.heap.size w ((((w1.setCell ⟨b, 0, none⟩ u0).setCell ⟨b, 1, none⟩ u1).setCell ⟨b, 2, none⟩ u2).setCell ⟨b, 3, none⟩ u3) :=
 (((h.setCell (p := ⟨b, 0, none⟩) hb _).setCell (p := ⟨b, 1, none⟩) hb _).setCell (p := ⟨b, 2, none⟩) hb _).setCell (p := ⟨b, 3, none⟩) hb _
theorem rule_base {b : Brid} (hv : ValidB b) {i : Nat} (h1 : 1 ≤ i) (hi : i < b.scripts.length) : ∃ r, RuleIn b i 0 r := by
 have h0 : b.scripts[0]? = some b.scripts[0] := List.getElem?_eq_getElem (by omega)
 have hI : b.scripts[i]? = some b.scripts[i] := List.getElem?_eq_getElem hi
 obtain ⟨r, hr, q1, q2⟩ := hv.base i _ _ h1 hI h0
 exact ⟨r, hr, _, _, ⟨hI, q1.symm⟩, ⟨h0, q2.symm⟩⟩

set_option maxRecDepth 100000 in
set_option maxHeartbeats 2000000 in
theorem Machine0_any (b : Brid) (v : Value) (x : Int) (w : World) (h : BridAt w w.heap.size v b) :
  Calls Tryz.prog 58 #[v, .int .i64 x, .int .i64 0] w (MachinePost b x 0 w) := by
 have hB := h
 obtain ⟨a, c, a', c', rfl, hn, hr, hA, hR⟩ := h
 unfold maxLen at hn
 obtain ⟨W0, hW0⟩ : ∃ W0 : World, W0 = (w.alloc (.cells #[.slice a b.scripts.length c, .slice a' b.rules.length c'] 25)).alloc (.cells #[.int .i64 0, .int .i64 0, .slice none 0 0, .slice none 0 0] 96) := ⟨_, rfl⟩
 have hw0 : Below w.heap.size w W0 := by rw [hW0]; exact ((Below.refl _ _).alloc (Nat.le_refl _) _).alloc (by simp) _
 have hs0 : W0.heap.size = w.heap.size + 2 := by rw [hW0]; simp
 have hkb : Blk W0 w.heap.size #[.slice a b.scripts.length c, .slice a' b.rules.length c'] 25 := by rw [hW0]; exact (Blk.new _ _ _).alloc _
 have hkm : Blk W0 (w.heap.size + 1) #[.int .i64 0, .int .i64 0, .slice none 0 0, .slice none 0 0] 96 := by
  rw [hW0]; have := Blk.new (w.alloc (.cells #[.slice a b.scripts.length c, .slice a' b.rules.length c'] 25)) #[.int .i64 0, .int .i64 0, .slice none 0 0, .slice none 0 0] 96; simpa using this
 have HO := Lib.hid (openB_any b _ W0 ((hB.below hw0 (Nat.le_refl _)).more (by omega)))
 have HA := Lib.hid hA
 clear hB hA hR
 go_enter Tryz.func58, Tryz.ntmps58
 go_upto_region 1 with (fail)
 rw [← hW0]
 clear hW0
 have x0 : W0.cell? ⟨w.heap.size, 0, none⟩ = some (.slice a b.scripts.length c) := hkb.cell 0
 have x1 : W0.cell? ⟨w.heap.size, 1, none⟩ = some (.slice a' b.rules.length c') := hkb.cell 1
 go_wp2_with fail
 refine HO.out.mono ?_
 rintro e w1 ⟨hcase, hb1⟩
 have hbw1 := hw0.trans (hb1.mono (by omega))
 have hsz1 := hb1.size
 clear x0 x1
 have Hbad := Lib.hid (fun (hno : ¬ (ValidB b ∧ 0 ≤ x ∧ x < b.scripts.length)) => (show MachineOut b x 0 zeroM 1 from .inl ⟨fun q => hno ⟨q.1, q.2.1, q.2.2.1⟩, rfl, rfl⟩))
 have hkb1 := hkb.below hb1 (by omega)
 have hkm1 := hkm.below hb1 (by omega)
 have x0 : w1.cell? ⟨w.heap.size, 0, none⟩ = some (.slice a b.scripts.length c) := hkb1.cell 0
 have r0 : w1.cell? ⟨w.heap.size + 1, 0, none⟩ = some (.int .i64 0) := hkm1.cell 0
 have r1 : w1.cell? ⟨w.heap.size + 1, 1, none⟩ = some (.int .i64 0) := hkm1.cell 1
 have r2 : w1.cell? ⟨w.heap.size + 1, 2, none⟩ = some (.slice none 0 0) := hkm1.cell 2
 have r3 : w1.cell? ⟨w.heap.size + 1, 3, none⟩ = some (.slice none 0 0) := hkm1.cell 3
 have f0 := hkm1.frozen 0
 have f1 := hkm1.frozen 1
 have f2 := hkm1.frozen 2
 have f3 := hkm1.frozen 3
 have hl0 : w.heap.size < w1.heap.size := by omega
 have hl1 : w.heap.size + 1 < w1.heap.size := by omega
 rcases hcase with ⟨hv, rfl⟩ | ⟨hv, mb, es, rfl, hmb, hM, hway⟩
 ·have HN := Lib.hid (Hbad.out (fun q => hv q.1))
  clear hv
  have HI := Lib.hid ((zero_into hkm1 rfl).alloc (.cells #[.map none] 137))
  go_wp2_with fail
  have hk := HI.out
  have m0 := hk.cell 0
  have m1 := hk.cell 1
  have m2 := hk.cell 2
  have m3 := hk.cell 3
  simp only [List.getElem?_toArray, List.getElem?_cons_zero, List.getElem?_cons_succ] at m0 m1 m2 m3
  refine bodyPost_ret (v := .tuple #[.agg #[.int .i64 0, .int .i64 0, .slice none 0 0, .slice none 0 0], .int .i64 1]) (by simp [results, Tryz.results58, go_sem, m0, m1, m2, m3]) rfl ?_
  exact ⟨_, zeroM, 1, rfl, zero_at _ _, HN.out, (set4_below hbw1 (b := w.heap.size + 1) (by omega) _ _ _ _).alloc (set4_below hbw1 (b := w.heap.size + 1) (by omega) _ _ _ _).size _⟩
 have hi0 : 0 ≤ x ∨ x < 0 := by omega
 by_cases hx : 0 ≤ x ∧ x < b.scripts.length
 case neg =>
  have HN := Lib.hid (Hbad.out (fun q => hx q.2))
  have HI := Lib.hid ((zero_into hkm1 rfl).alloc (.cells #[.map (some mb)] 137))
  clear hv hM hway
  by_cases hlt : x < 0
  ·clear hx hi0
   go_wp2_with fail
   have hk := HI.out
   have m0 := hk.cell 0
   have m1 := hk.cell 1
   have m2 := hk.cell 2
   have m3 := hk.cell 3
   simp only [List.getElem?_toArray, List.getElem?_cons_zero, List.getElem?_cons_succ] at m0 m1 m2 m3
   refine bodyPost_ret (v := .tuple #[.agg #[.int .i64 0, .int .i64 0, .slice none 0 0, .slice none 0 0], .int .i64 1]) (by simp [results, Tryz.results58, go_sem, m0, m1, m2, m3]) rfl ?_
   exact ⟨_, zeroM, 1, rfl, zero_at _ _, HN.out, (set4_below hbw1 (b := w.heap.size + 1) (by omega) _ _ _ _).alloc (set4_below hbw1 (b := w.heap.size + 1) (by omega) _ _ _ _).size _⟩
  ·have hge : (b.scripts.length : Int) ≤ x := by omega
   have hnn : 0 ≤ x := by omega
   clear hx hi0 hlt
   go_wp2_with fail
   have hk := HI.out
   have m0 := hk.cell 0
   have m1 := hk.cell 1
   have m2 := hk.cell 2
   have m3 := hk.cell 3
   simp only [List.getElem?_toArray, List.getElem?_cons_zero, List.getElem?_cons_succ] at m0 m1 m2 m3
   refine bodyPost_ret (v := .tuple #[.agg #[.int .i64 0, .int .i64 0, .slice none 0 0, .slice none 0 0], .int .i64 1]) (by simp [results, Tryz.results58, go_sem, m0, m1, m2, m3]) rfl ?_
   exact ⟨_, zeroM, 1, rfl, zero_at _ _, HN.out, (set4_below hbw1 (b := w.heap.size + 1) (by omega) _ _ _ _).alloc (set4_below hbw1 (b := w.heap.size + 1) (by omega) _ _ _ _).size _⟩
 obtain ⟨i, rfl⟩ : ∃ i : Nat, x = (i : Int) := ⟨x.toNat, by omega⟩
 have hil : i < b.scripts.length := by omega
 have h0l : 0 < b.scripts.length := by omega
 clear hx hi0 Hbad
 -- the map's answer
 obtain ⟨s0, s1, ra, rn, rc, t3, hlk3, hv3⟩ := look_ways es ((i : Int), 0) hway.aggs
 have ht3 : t3 = decide (1 ≤ i) := by
  rcases hv3 with ⟨rfl, hin⟩ | ⟨rfl, hno⟩
  ·obtain ⟨r, hr, A, A', q1, q2, _⟩ := hway.has (i := i) (j := 0) hin
   have := (hv.rule_valid ⟨hr, A, A', q1, q2⟩ q1.1 q2.1).1
   symm; rw [decide_eq_true_iff]; omega
  ·symm; rw [decide_eq_false_iff_not]
   intro h1
   obtain ⟨r, hr, A, A', q1, q2⟩ := rule_base hv h1 hil
   exact hway.hasnt hv.scr.names (i := i) (j := 0) hno hr q1 q2
 have hrule : i ≠ 0 → ∃ r, RuleIn b i 0 r := fun h => rule_base hv (by omega) hil
 have hmach : ∀ M, MadeOf b i 0 M → MachineOut b (i : Int) 0 M 0 := fun M hM => .inr ⟨hv, i, 0, rfl, rfl, hil, h0l, .inl ⟨by
  by_cases h : i = 0
  ·exact .inl h
  ·exact .inr (hrule h), hM, rfl⟩⟩
 have Hmach := Lib.hid hmach
 have Hrule := Lib.hid hrule
 have Hway := Lib.hid (And.intro hway (And.intro hM hv))
 have e3 := hlk3 (w1.alloc (.cells #[.map (some mb)] 137)) mb (hM.alloc _)
 clear hmach hrule hway hlk3 hv3 hv hM
 by_cases hi1 : 1 ≤ i
 all_goals
  first
   | (have ht : t3 = true := by rw [ht3]; exact decide_eq_true hi1)
   | (have ht : t3 = false := by rw [ht3]; exact decide_eq_false hi1)
  subst ht
  have hd : ((i : Int) == 0) = decide (i = 0) := by rw [Bool.eq_iff_iff]; simp
  have hdi : (decide (i = 0)) = !(decide (1 ≤ i)) := by rw [Bool.eq_iff_iff]; simp
  first
   | (rw [hdi, decide_eq_true hi1] at hd)
   | (rw [hdi, decide_eq_false hi1] at hd)
  have hz1 : decide ((i : Int) < 0) = false := by simp
  have hz2 : decide (b.scripts.length ≤ i) = false := decide_eq_false (by omega)
  have hz3 : decide (b.scripts = []) = false := decide_eq_false (fun e => by rw [e] at h0l; simp at h0l)
  clear ht3 hi1 hdi
  go_upto_region 7 with (fail)
  obtain ⟨W3, hW3⟩ : ∃ W3 : World, W3 = (w1.alloc (.cells #[.map (some mb)] 137)).alloc (.cells #[.string s0, .string s1, .slice ra rn rc] 106) := ⟨_, rfl⟩
  rw [← hW3]
  have hb3 : Below w1.heap.size w1 W3 := by rw [hW3]; exact ((Below.refl _ _).alloc (Nat.le_refl _) _).alloc (by simp) _
  have hs3 : W3.heap.size = w1.heap.size + 2 := by rw [hW3]; simp
  have hkw : Blk W3 w1.heap.size #[.map (some mb)] 137 := by rw [hW3]; exact (Blk.new _ _ _).alloc _
  clear hW3 x0 r0 r1 r2 r3 f0 f1 f2 f3 e3
  have hbw3 := hbw1.trans (hb3.mono hbw1.size)
  have hC := Lib.hid (made_one b i 0 w.heap.size w1.heap.size mb a c es W3 Hway.out.2.2 ((hkb1.below hb3 (by omega)).cell 0) (by omega) ((HA.out.below hbw3 (Nat.le_refl _)).more hbw3.size) (hkw.cell 0) (by omega) (MapIs.below Hway.out.2.1 hb3 (MapIs.lt Hway.out.2.1)) ((Hway.out.1.below hb3 hsz1).more (by omega)) hil h0l Hrule.out)
  have hkm3 := hkm1.below hb3 (by omega)
  go_wp2_with fail
  refine hC.out.mono ?_
  rintro e w4 ⟨v4, M, rfl, hm4, hmd, hb4⟩
  have hM4 := hm4
  obtain ⟨fa, fc, aa, ac, rfl, -, -, -, -⟩ := hm4
  have hkm4 := hkm3.below hb4 (by omega)
  have HI := Lib.hid (fun W hW => mach_into hkm4 hM4 hmd.final (W := W) hW)
  have r0 : w4.cell? ⟨w.heap.size + 1, 0, none⟩ = some (.int .i64 0) := hkm4.cell 0
  have r1 : w4.cell? ⟨w.heap.size + 1, 1, none⟩ = some (.int .i64 0) := hkm4.cell 1
  have r2 : w4.cell? ⟨w.heap.size + 1, 2, none⟩ = some (.slice none 0 0) := hkm4.cell 2
  have r3 : w4.cell? ⟨w.heap.size + 1, 3, none⟩ = some (.slice none 0 0) := hkm4.cell 3
  have f0 := hkm4.frozen 0
  have f1 := hkm4.frozen 1
  have f2 := hkm4.frozen 2
  have f3 := hkm4.frozen 3
  have hbw4 := hbw3.trans (hb4.mono hbw3.size)
  have Hmd := Lib.hid (Hmach.out M hmd)
  clear hkm4 hM4 hmd
  go_wp2_with fail
  obtain ⟨hk, hm⟩ := HI.out _ rfl
  have m0 := hk.cell 0
  have m1 := hk.cell 1
  have m2 := hk.cell 2
  have m3 := hk.cell 3
  simp only [List.getElem?_toArray, List.getElem?_cons_zero, List.getElem?_cons_succ] at m0 m1 m2 m3
  refine bodyPost_ret (v := .tuple #[.agg #[.int .i64 M.states, .int .i64 M.start, .slice fa M.final.length fc, .slice aa M.arcs.length ac], .int .i64 0]) (by simp [results, Tryz.results58, go_sem, m0, m1, m2, m3]) rfl ?_
  exact ⟨_, M, 0, rfl, hm.more (by simp), Hmd.out, set4_below hbw4 (b := w.heap.size + 1) (by omega) _ _ _ _⟩
end Go.Proofs.YthachfkcgdfdfaaGreatDoor
/- Walks: bridge.only, bridge.Write towards the base script. -/
namespace Go.Proofs.YthachfkcgdfdfaaGreatDoor
open Go.RowKit Classical

set_option maxRecDepth 100000 in
set_option maxHeartbeats 1000000 in
theorem wtest_any (b : Brid) (j : Nat) (B : Alph) (Bb Bt : Nat) (a : Option Addr) (c : Nat) (s : ByteArray) (hs : s.size ≤ maxLen) (w : World) (hB : b.scripts[j]? = some B) (hv : Valid10 B) (hb0 : w.cell? ⟨Bb, 0, none⟩ = some (.slice a b.scripts.length c)) (ht : w.cell? ⟨Bt, 0, none⟩ = some (.int .i64 (j : Int))) (hA : AlphsAt w w.heap.size a b.scripts) :
  Calls Tryz.prog 61 #[.string s, .pointer (some ⟨Bb, 0, none⟩), .pointer (some ⟨Bt, 0, none⟩)] w fun e w' => e = .returned (.bool (decide (WordOf B s))) ∧ Below w.heap.size w w' := by
 obtain ⟨g, o, la, lc, sa, sc, rfl, hg, p0, p1, p2, hAt⟩ := hA.get hB
 have hjl : j < b.scripts.length := (List.getElem?_eq_some_iff.1 hB).1
 have hq := Read_any B _ s hs w hAt
 have he : readA B s = readL B.bls (bl s) := by unfold readA; rw [if_pos hv]
 rw [he] at hq
 have HQ := Lib.hid hq
 have hd : ((readL B.bls (bl s)).err == 0) = decide (WordOf B s) := by
  by_cases h : WordOf B s
  ·rw [decide_eq_true h]; unfold WordOf at h; rw [h]; rfl
  ·rw [decide_eq_false h, beq_eq_false_iff_ne]; exact h
 have Hd := Lib.hid hd
 clear hq he hv hB hA hAt hd
 go_enter Tryz.func61, Tryz.ntmps61
 go_wp2_with (go_at_call 52; refine HQ.out.mono ?_; rintro e w1 ⟨v, rfl, hrow, hb1⟩)
 go_ret
 exact ⟨ret_bool Hd.out, hb1⟩

theorem filter_take_succ {p : ByteArray → Prop} {ts : List ByteArray} {k : Nat} (hk : k < ts.length) : (ts.take (k + 1)).filter (fun t => decide (p t)) = (ts.take k).filter (fun t => decide (p t)) ++ (if p ts[k] then [ts[k]] else []) := by
 rw [List.take_succ_eq_append_getElem hk, List.filter_append]
 congr 1
 by_cases h : p ts[k] <;> simp [h]
def OnlyPost (p : ByteArray → Prop) (ts : List ByteArray) (w : World) (e : Ending) (w' : World) : Prop :=
 ∃ (s : ByteArray) (err : Int), e = .returned (.tuple #[.string s, .int .i64 err]) ∧ OnlyOf p ts s err ∧ Below w.heap.size w w'
theorem filter_pre {p : ByteArray → Prop} {ts : List ByteArray} (k : Nat) : ((ts.take k).filter (fun t => decide (p t))).length ≤ (ts.filter (fun t => decide (p t))).length :=
 ((List.take_sublist k ts).filter _).length_le
set_option maxRecDepth 100000 in
set_option maxHeartbeats 1000000 in
theorem only_any (p : ByteArray → Prop) (ts : List ByteArray) (ta : Option Addr) (tc : Nat) (fn : FuncId) (P1 P2 : Value) (w : World) (hl : ts.length ≤ maxLen) (h : RowAt w w.heap.size ta (strs ts)) (eg : ∀ args w, (callFunc fn args).run Tryz.prog w = .ok (.enter fn args) w)
  (hT : ∀ (w' : World) t, Below w.heap.size w w' → t ∈ ts → Calls Tryz.prog fn #[.string t, P1, P2] w' fun e w'' => e = .returned (.bool (decide (p t))) ∧ Below w'.heap.size w' w'') :
  Calls Tryz.prog 60 #[.slice ta ts.length tc, .func (.func fn) #[] #[P1, P2]] w (OnlyPost p ts w) := by
 unfold maxLen at hl
 have Hcr := Lib.hid (fun (wr : World) (hbr : Below w.heap.size w wr) (k : Nat) (hk : k < ts.length) => (show ∃ g o, ta = some ⟨g, o, none⟩ ∧ wr.cell? ⟨g, o + k, none⟩ = some (.string ts[k]) from by
  obtain ⟨g, o, e, hg, hc⟩ := h.strs (by omega)
  exact ⟨g, o, e, (hbr.cell (p := ⟨g, o + k, none⟩) hg).trans (hc k hk)⟩))
 have HT := Lib.hid hT
 clear h hT
 go_enter Tryz.func60, Tryz.ntmps60
 go_wp2_with fail
 go_loopw [12, 6, 7] (fun i v6 v7 wr => ∃ (k : Nat) (s : ByteArray) (e : Int), k ≤ ts.length ∧ i = .int .i64 k ∧ v6 = .string s ∧ v7 = .int .i64 e ∧ ((bl s = [] ∧ e = 10 ∧ (ts.take k).filter (fun t => decide (p t)) = []) ∨ (e = 0 ∧ (ts.take k).filter (fun t => decide (p t)) = [s])) ∧ Below w.heap.size w wr) (fun i _ _ _ => ts.length - (intOf i).toNat)
 case atStart => exact ⟨0, ⟨#[]⟩, 10, Nat.zero_le _, rfl, rfl, rfl, .inl ⟨rfl, rfl, by simp⟩, Below.refl _ _⟩
 case round =>
  obtain ⟨k, s, e, hk, rfl, rfl, rfl, hcase, hbr⟩ := hrel
  have Hcase := Lib.hid hcase
  clear hcase
  by_cases hkl : k < ts.length
  ·obtain ⟨g, o, rfl, c0⟩ := Hcr.out wr hbr k hkl
   obtain ⟨t, hte⟩ : ∃ t, ts[k] = t := ⟨_, rfl⟩
   have hsucc := filter_take_succ (p := p) hkl
   rw [hte] at c0 hsucc
   have HC := Lib.hid (HT.out wr t hbr (by rw [← hte]; exact List.getElem_mem hkl))
   have Hsucc := Lib.hid hsucc
   clear hsucc hte
   by_cases hp : p t
   ·rw [decide_eq_true hp] at HC
    have Hp := Lib.hid hp
    clear hp
    rcases Hcase.out with ⟨h1, rfl, h3⟩ | ⟨rfl, h2⟩
    ·have Hnew := Lib.hid (show (ts.take (k + 1)).filter (fun t => decide (p t)) = [t] by rw [Hsucc.out, h3, if_pos Hp.out]; rfl)
     clear h1 h3
     go_wp2_with (refine HC.out.mono ?_; rintro e w1 ⟨rfl, hb1⟩)
     exact ⟨⟨k + 1, t, 0, by omega, by go_num, rfl, rfl, .inr ⟨rfl, Hnew.out⟩, hbr.trans (hb1.mono hbr.size)⟩, by simp [intOf]; omega⟩
    ·have Hnew := Lib.hid (show 2 ≤ (ts.filter (fun t => decide (p t))).length by
      have h3 : (ts.take (k + 1)).filter (fun t => decide (p t)) = [s] ++ [t] := by rw [Hsucc.out, h2, if_pos Hp.out]
      have := filter_pre (p := p) (ts := ts) (k + 1)
      rw [h3] at this
      exact this)
     clear h2
     go_wp2_with (refine HC.out.mono ?_; rintro e w1 ⟨rfl, hb1⟩)
     go_ret2
     exact ⟨_, 8, rfl, .inr (.inr ⟨Hnew.out, rfl, rfl⟩), hbr.trans (hb1.mono hbr.size)⟩
   ·rw [decide_eq_false hp] at HC
    have hsame : (ts.take (k + 1)).filter (fun t => decide (p t)) = (ts.take k).filter (fun t => decide (p t)) := by rw [Hsucc.out, if_neg hp, List.append_nil]
    have Hnew := Lib.hid (show ((bl s = [] ∧ e = 10 ∧ (ts.take (k + 1)).filter (fun t => decide (p t)) = []) ∨ (e = 0 ∧ (ts.take (k + 1)).filter (fun t => decide (p t)) = [s])) by rw [hsame]; exact Hcase.out)
    clear hp hsame
    go_wp2_with (refine HC.out.mono ?_; rintro e w1 ⟨rfl, hb1⟩)
    exact ⟨⟨k + 1, s, e, by omega, by go_num, rfl, rfl, Hnew.out, hbr.trans (hb1.mono hbr.size)⟩, by simp [intOf]; omega⟩
  ·obtain rfl : k = ts.length := by omega
   have Hend := Lib.hid (show OnlyOf p ts s e by
    have := Hcase.out
    rw [List.take_length] at this
    rcases this with ⟨h1, h2, h3⟩ | ⟨h1, h2⟩
    ·exact .inl ⟨h3, h1, h2⟩
    ·exact .inr (.inl ⟨h2, h1⟩))
   go_wp2_with fail
   go_ret2
   exact ⟨_, _, rfl, Hend.out, hbr⟩

def WritePost (b : Brid) (x y : Int) (word : ByteArray) (w : World) (e : Ending) (w' : World) : Prop :=
 ∃ (s : ByteArray) (err : Int), e = .returned (.tuple #[.string s, .int .i64 err]) ∧ WriteOut b x y word s err ∧ Below w.heap.size w w'
set_option maxRecDepth 100000 in
set_option maxHeartbeats 2000000 in
theorem Write0_any (b : Brid) (v : Value) (x : Int) (word : ByteArray) (hword : word.size ≤ maxLen) (w : World) (h : BridAt w w.heap.size v b) :
  Calls Tryz.prog 26 #[v, .int .i64 x, .int .i64 0, .string word] w (WritePost b x 0 word w) := by
 have hB := h
 obtain ⟨a, c, a', c', rfl, hn, hr, hA, hR⟩ := h
 have hn' := hn
 unfold maxLen at hn
 obtain ⟨W0, hW0⟩ : ∃ W0 : World, W0 = (w.alloc (.cells #[.slice a b.scripts.length c, .slice a' b.rules.length c'] 25)).alloc (.cells #[.int .i64 0] 3) := ⟨_, rfl⟩
 have hw0 : Below w.heap.size w W0 := by rw [hW0]; exact ((Below.refl _ _).alloc (Nat.le_refl _) _).alloc (by simp) _
 have hs0 : W0.heap.size = w.heap.size + 2 := by rw [hW0]; simp
 have hkb : Blk W0 w.heap.size #[.slice a b.scripts.length c, .slice a' b.rules.length c'] 25 := by rw [hW0]; exact (Blk.new _ _ _).alloc _
 have hkt : Blk W0 (w.heap.size + 1) #[.int .i64 0] 3 := by
  rw [hW0]; have := Blk.new (w.alloc (.cells #[.slice a b.scripts.length c, .slice a' b.rules.length c'] 25)) #[.int .i64 0] 3; simpa using this
 have HM := Lib.hid (Machine0_any b _ x W0 ((hB.below hw0 (Nat.le_refl _)).more (by omega)))
 have HA := Lib.hid hA
 have HK := Lib.hid (fun (wr : World) (hbr : Below W0.heap.size W0 wr) => have hbw := hw0.trans (hbr.mono (by omega)); (show wr.cell? ⟨w.heap.size, 0, none⟩ = some (.slice a b.scripts.length c) ∧ wr.cell? ⟨w.heap.size, 1, none⟩ = some (.slice a' b.rules.length c') ∧ wr.cell? ⟨w.heap.size + 1, 0, none⟩ = some (.int .i64 0) ∧ AlphsAt wr wr.heap.size a b.scripts ∧ Below w.heap.size w wr from
  ⟨(hkb.below hbr (by omega)).cell 0, (hkb.below hbr (by omega)).cell 1, (hkt.below hbr (by omega)).cell 0, (HA.out.below hbw (Nat.le_refl _)).more hbw.size, hbw⟩))
 clear hB hA hR hkb hkt
 go_enter Tryz.func26, Tryz.ntmps26
 go_upto_region 1 with (fail)
 rw [← hW0]
 clear hW0
 obtain ⟨x0, x1, x2, -, -⟩ := HK.out W0 (Below.refl _ _)
 go_wp2_with fail
 refine HM.out.mono ?_
 rintro e w1 ⟨v1, M, e1, rfl, hm1, hmo, hb1⟩
 have hM1 := hm1
 obtain ⟨fa, fc, aa, ac, rfl, -, -, -, -⟩ := hm1
 have hsz1 := hb1.size
 clear x0 x1 x2
 go_upto_region 2 with (fail)
 obtain ⟨W2, hW2⟩ : ∃ W2 : World, W2 = w1.alloc (.cells #[.int .i64 M.states, .int .i64 M.start, .slice fa M.final.length fc, .slice aa M.arcs.length ac] 96) := ⟨_, rfl⟩
 have hb2 : Below w1.heap.size w1 W2 := by rw [hW2]; exact (Below.refl _ _).alloc (Nat.le_refl _) _
 have hs2 : W2.heap.size = w1.heap.size + 1 := by rw [hW2]; simp
 have hkm : Blk W2 w1.heap.size #[.int .i64 M.states, .int .i64 M.start, .slice fa M.final.length fc, .slice aa M.arcs.length ac] 96 := by rw [hW2]; exact Blk.new _ _ _
 rw [← hW2]
 clear hW2
 have hb02 := hb1.trans (hb2.mono hsz1)
 have hM2 := (hM1.below hb2 (Nat.le_refl _)).more hb2.size
 obtain ⟨x0, x1, x2, hA2, hbw2⟩ := HK.out W2 hb02
 have Hmo := Lib.hid hmo
 clear hM1 hmo
 by_cases he1 : e1 = 0
 case neg =>
  have d1 : (e1 != 0) = true := by simpa using he1
  have Hout := Lib.hid (show WriteOut b x 0 word ⟨#[]⟩ e1 from ⟨M, e1, Hmo.out, .inl ⟨he1, rfl, rfl⟩⟩)
  clear hA2 hM2 he1
  go_wp2_with fail
  go_ret2
  exact ⟨_, _, rfl, Hout.out, hbw2⟩
 subst he1
 obtain ⟨hv, i, hxi, hil, hmade, h0l⟩ : ValidB b ∧ ∃ i : Nat, x = (i : Int) ∧ i < b.scripts.length ∧ MadeOf b i 0 M ∧ 0 < b.scripts.length := by
  rcases Hmo.out with ⟨_, e, _⟩ | ⟨hv, i, j, q1, q2, q3, q4, q5⟩
  ·cases e
  ·obtain rfl : j = 0 := by omega
   refine ⟨hv, i, q1, q3, ?_, q4⟩
   rcases q5 with ⟨_, q, _⟩ | ⟨n, _⟩
   ·exact q
   ·exfalso
    by_cases h : i = 0
    ·exact n (.inl h)
    ·exact n (.inr (rule_base hv (by omega) q3))
 subst hxi
 obtain ⟨A, hAi⟩ : ∃ A, b.scripts[i]? = some A := ⟨_, List.getElem?_eq_getElem hil⟩
 obtain ⟨B, hB0⟩ : ∃ B, b.scripts[0]? = some B := ⟨_, List.getElem?_eq_getElem h0l⟩
 obtain ⟨g, o, la, lc, sa, sc, rfl, hg, p0, p1, p2, hAt⟩ := hA2.get hAi
 have HF := Lib.hid (Fold_any A _ word hword W2 hAt)
 have HM2 := Lib.hid hM2
 have Hv := Lib.hid (And.intro hv (And.intro hAi (And.intro hB0 hmade)))
 clear hA2 hM2 hAt hv hAi hB0 hmade
 go_wp2_with fail
 refine HF.out.mono ?_
 rintro e w3 ⟨t, e2, rfl, hfo, hb3⟩
 have hb03 := hb02.trans (hb3.mono hb02.size)
 obtain ⟨y0, y1, y2, hA3, hbw3⟩ := HK.out w3 hb03
 have hkm3 := hkm.below hb3 (by omega)
 have m0 : w3.cell? ⟨w1.heap.size, 0, none⟩ = some (.int .i64 M.states) := hkm3.cell 0
 have m1 : w3.cell? ⟨w1.heap.size, 1, none⟩ = some (.int .i64 M.start) := hkm3.cell 1
 have m2 : w3.cell? ⟨w1.heap.size, 2, none⟩ = some (.slice fa M.final.length fc) := hkm3.cell 2
 have m3 : w3.cell? ⟨w1.heap.size, 3, none⟩ = some (.slice aa M.arcs.length ac) := hkm3.cell 3
 have hMO : ∀ s err, ((e2 ≠ 0 ∧ bl s = [] ∧ err = 1) ∨ (e2 = 0 ∧ ∃ ts e3, RunsOf M (bl t) ts e3 ∧ ((e3 ≠ 0 ∧ bl s = [] ∧ err = e3) ∨ (e3 = 0 ∧ OnlyOf (WordOf B) ts s err)))) → WriteOut b (i : Int) 0 word s err := fun s err hh =>
  ⟨M, 0, Hmo.out, .inr ⟨rfl, A, B, Hv.out.2.1, Hv.out.2.2.1, t, e2, hfo, hh⟩⟩
 have HMO := Lib.hid hMO
 have hts : t.size ≤ 400 := by
  rcases hfo with ⟨q1, q2, q3, _⟩ | ⟨_, q, _⟩
  ·have := (fold_word q1 q2).2.2.2
   rw [← bl_length, q3]; omega
  ·rw [← bl_length, q]; simp
 clear x0 x1 x2 p0 p1 p2 hMO hfo hkm3
 by_cases he2 : e2 = 0
 case neg =>
  have d1 : (e2 != 0) = true := by simpa using he2
  have Hout := Lib.hid (HMO.out ⟨#[]⟩ 1 (.inl ⟨he2, rfl, rfl⟩))
  clear he2
  go_wp2_with fail
  go_ret2
  exact ⟨_, _, rfl, Hout.out, hbw3⟩
 subst he2
 have HRn := Lib.hid (Runs_any M _ t (by unfold maxLen; omega) w3 ((HM2.out.below hb3 (Nat.le_refl _)).more hb3.size))
 clear hA3
 go_wp2_with fail
 refine HRn.out.mono ?_
 rintro e w4 ⟨v4, ts, e3, rfl, ⟨ta, tc, rfl, hrow⟩, hb4, hruns⟩
 have hb04 := hb03.trans (hb4.mono hb03.size)
 obtain ⟨z0, z1, z2, hA4, hbw4⟩ := HK.out w4 hb04
 have hsz := fun t' (ht : t' ∈ ts) => runs_size hruns ht
 have hlen := runs_len hruns
 have Hruns := Lib.hid hruns
 clear hruns y0 y1 y2 m0 m1 m2 m3
 by_cases he3 : e3 = 0
 case neg =>
  have d1 : (e3 != 0) = true := by simpa using he3
  have Hout := Lib.hid (HMO.out ⟨#[]⟩ e3 (.inr ⟨by trivial, ts, e3, Hruns.out, .inl ⟨he3, rfl, rfl⟩⟩))
  clear he3 hA4 hrow hsz
  go_wp2_with fail
  go_ret2
  exact ⟨_, _, rfl, Hout.out, hbw4⟩
 subst he3
 have HO := Lib.hid (only_any (WordOf B) ts ta tc 61 (.pointer (some ⟨w.heap.size, 0, none⟩)) (.pointer (some ⟨w.heap.size + 1, 0, none⟩)) w4 (by unfold maxLen; omega) hrow (enters_of Tryz.func61 (by kernel_rfl) rfl)
  (fun w' t' hb' ht' => by
   have hb0' := hb04.trans (hb'.mono hb04.size)
   obtain ⟨q0, _, q2, qA, _⟩ := HK.out w' hb0'
   exact wtest_any b 0 B _ _ _ _ t' (by have := hsz t' ht'; unfold maxLen; omega) w' Hv.out.2.2.1 (Hv.out.1.scr.alph B (List.mem_of_getElem? Hv.out.2.2.1)) q0 q2 qA))
 clear hA4 hrow hsz
 go_wp2_with fail
 refine HO.out.mono ?_
 rintro e w5 ⟨s, err, rfl, honly, hb5⟩
 have Hout := Lib.hid (HMO.out s err (.inr ⟨by trivial, ts, 0, Hruns.out, .inr ⟨rfl, honly⟩⟩))
 clear honly
 go_wp2_with fail
 go_ret2
 exact ⟨_, _, rfl, Hout.out, hbw4.trans (hb5.mono hbw4.size)⟩
end Go.Proofs.YthachfkcgdfdfaaGreatDoor
