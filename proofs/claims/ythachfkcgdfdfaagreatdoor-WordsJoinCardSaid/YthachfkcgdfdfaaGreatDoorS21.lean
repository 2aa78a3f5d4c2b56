/- GA · UA · UC · RA · RB · QA · QB -/
import Derived.Test.YthachfkcgdfdfaaGreatDoorCards
import Derived.Test.YthachfkcgdfdfaaGreatDoorIter
import Derived.Test.YthachfkcgdfdfaaGreatDoorP00
import Derived.Test.YthachfkcgdfdfaaGreatDoorP01
import Derived.Test.YthachfkcgdfdfaaGreatDoorP03
import Derived.Test.YthachfkcgdfdfaaGreatDoorP04
import Derived.Test.YthachfkcgdfdfaaGreatDoorP05
import Derived.Test.YthachfkcgdfdfaaGreatDoorP06
import Derived.Test.YthachfkcgdfdfaaGreatDoorP07
import Derived.Test.YthachfkcgdfdfaaGreatDoorP08
import Derived.Test.YthachfkcgdfdfaaGreatDoorP09
import Derived.Test.YthachfkcgdfdfaaGreatDoorP10
import Derived.Test.YthachfkcgdfdfaaGreatDoorP11
import Derived.Test.YthachfkcgdfdfaaGreatDoorP12
import Derived.Test.YthachfkcgdfdfaaGreatDoorP13
import Derived.Test.YthachfkcgdfdfaaGreatDoorP14
import Derived.Test.YthachfkcgdfdfaaGreatDoorP15
import Derived.Test.YthachfkcgdfdfaaGreatDoorP16
import Derived.Test.YthachfkcgdfdfaaGreatDoorP17
import Derived.Test.YthachfkcgdfdfaaGreatDoorP18
import Derived.Test.YthachfkcgdfdfaaGreatDoorP19
import Derived.Test.YthachfkcgdfdfaaGreatDoorP20
import Derived.Test.YthachfkcgdfdfaaGreatDoorP21
import Derived.Test.YthachfkcgdfdfaaGreatDoorP22
import Derived.Test.YthachfkcgdfdfaaGreatDoorP23
import Derived.Test.YthachfkcgdfdfaaGreatDoorP24
import Derived.Test.YthachfkcgdfdfaaGreatDoorP25
import Derived.Test.YthachfkcgdfdfaaGreatDoorP26
import Derived.Test.YthachfkcgdfdfaaGreatDoorP27
import Derived.Test.YthachfkcgdfdfaaGreatDoorP28
import Derived.Test.YthachfkcgdfdfaaGreatDoorP29
import Derived.Test.YthachfkcgdfdfaaGreatDoorP30
import Derived.Test.YthachfkcgdfdfaaGreatDoorRV
import Derived.Test.YthachfkcgdfdfaaGreatDoorRows
import Derived.Test.YthachfkcgdfdfaaGreatDoorS17
import Derived.Test.YthachfkcgdfdfaaGreatDoorShelf
import Derived.Test.YthachfkcgdfdfaaGreatDoorSort
import Derived.Test.YthachfkcgdfdfaaGreatDoorSortX
import Derived.Test.YthachfkcgdfdfaaGreatDoorTie
import Derived.WalkKit
import Derived.WalkSpells
import Derived.WalkLawsBesides
import Derived.Lib.Hide
import Derived.Maps.AppendAt
import Derived.RangeFuncNested
import Derived.RangeFuncCalls
import Derived.OrdersIn
import Derived.Deep.RegionHeld3
import Derived.BigQuiet
import Derived.Deep.QuietTactic
import Derived.Deep.DeepHandedRow
import Derived.Deep.DeepWitnessRowRef
import Derived.Carry
import Derived.Lib.SmallJoins
import Derived.Deep.Strs
import Derived.Deep.Slices
import Derived.ChangeSlices
import Derived.OpenShut
import Derived.ProofKit
namespace Go.Proofs.YthachfkcgdfdfaaGreatDoor
open Go.RowKit

end Go.Proofs.YthachfkcgdfdfaaGreatDoor

namespace Go.Proofs.YthachfkcgdfdfaaGreatDoor
open Go.RowKit

theorem Box.c4 {w : World} {b : Nat} {x y z u : Value} (h : Box w b [x, y, z, u]) : w.cell? ⟨b, 0, none⟩ = some x ∧ w.cell? ⟨b, 1, none⟩ = some y ∧ w.cell? ⟨b, 2, none⟩ = some z ∧ w.cell? ⟨b, 3, none⟩ = some u := ⟨h 0 _ rfl, h 1 _ rfl, h 2 _ rfl, h 3 _ rfl⟩

end Go.Proofs.YthachfkcgdfdfaaGreatDoor

namespace Go.Proofs.YthachfkcgdfdfaaGreatDoor
open Go.RowKit

end Go.Proofs.YthachfkcgdfdfaaGreatDoor

namespace Go.Proofs.YthachfkcgdfdfaaGreatDoor
open Go.RowKit

section
variable {w w' : World} {b : Nat} {cs : Array Value} {t : TypeId}
end
end Go.Proofs.YthachfkcgdfdfaaGreatDoor

namespace Go.Proofs.YthachfkcgdfdfaaGreatDoor
open Go.RowKit

section
variable {P : Program} {Q : Exit → Act → World → Prop} {n l : Nat}

end
end Go.Proofs.YthachfkcgdfdfaaGreatDoor
namespace Go.Proofs.YthachfkcgdfdfaaGreatDoor
open Go Classical

theorem fst_uniq {l : List (ByteArray × Int)} (h : (l.map (·.1)).Nodup) {t : ByteArray} {c d : Int} (hc : (t, c) ∈ l) (hd : (t, d) ∈ l) : c = d := by
 induction l with
 | nil => cases hc
 | cons p l ih =>
  rw [List.map_cons, List.nodup_cons] at h
  rcases List.mem_cons.1 hc with e1 | hc <;> rcases List.mem_cons.1 hd with e2 | hd
  ·exact congrArg Prod.snd (e1.trans e2.symm)
  ·exact absurd (List.mem_map.2 ⟨_, hd, by rw [← e1]⟩) h.1
  ·exact absurd (List.mem_map.2 ⟨_, hc, by rw [← e2]⟩) h.1
  ·exact ih h.2 hc hd
theorem sumC_append (a b : List (ByteArray × Int)) : sumC (a ++ b) = sumC a + sumC b := by
 induction a with
 | nil => simp [sumC]
 | cons p a ih => rw [List.cons_append, sumC_cons, sumC_cons, ih]; omega
end Go.Proofs.YthachfkcgdfdfaaGreatDoor
namespace Go.Proofs.YthachfkcgdfdfaaGreatDoor
open Go Classical

section
variable {Cs Ds : List (List (ByteArray × Int))} {ps qs : List (ByteArray × Int)}
theorem Picks.set (h : Picks Cs ps) : ∀ {k : Nat} {C : List (ByteArray × Int)} {p : ByteArray × Int}, Cs[k]? = some C → p ∈ C → Picks Cs (ps.set k p) := by
 induction h with
 | nil => intro k C p h; simp at h
 | cons hp hs ih =>
  intro k C p hk hC
  cases k with
  | zero => simp at hk; subst hk; exact .cons hC hs
  | succ k => exact .cons hp (ih (by simpa using hk) hC)
theorem sumC_set : ∀ {ps : List (ByteArray × Int)} {k : Nat} {q : ByteArray × Int} (p : ByteArray × Int), ps[k]? = some q → sumC (ps.set k p) = sumC ps - q.2 + p.2
 | [], k, q, p, h => by simp at h
 | r :: ps, 0, q, p, h => by
  simp at h; subst h
  rw [List.set_cons_zero, sumC_cons, sumC_cons]; omega
 | r :: ps, k + 1, q, p, h => by
  rw [List.set_cons_succ, sumC_cons, sumC_cons, sumC_set p (by simpa using h)]; omega
theorem Picks.uniq (hC : ∀ C ∈ Cs, (C.map (·.1)).Nodup) (h : Picks Cs ps) : ∀ {qs : List (ByteArray × Int)}, Picks Cs qs → ps.map (·.1) = qs.map (·.1) → ps = qs := by
 induction h with
 | nil => intro qs k _; cases k; rfl
 | cons hp hs ih =>
  intro qs k e
  cases k with
  | cons hq ks =>
   rename_i C Cs p ps q qs
   rw [List.map_cons, List.map_cons] at e
   obtain ⟨e1, e2⟩ := List.cons.inj e
   have e3 := ih (fun C hC' => hC C (List.mem_cons_of_mem _ hC')) ks e2
   subst e3
   obtain ⟨t, c⟩ := p
   obtain ⟨t', d⟩ := q
   simp only at e1
   subst e1
   rw [fst_uniq (hC _ (List.mem_cons_self ..)) hp hq]
end
section
variable {l m : List Sht} {W V : List ByteArray}
theorem chsW_nodup (l : List Sht) (W : List ByteArray) : ∀ C ∈ chsW l W, (C.map (·.1)).Nodup := fun C hC => by
 obtain ⟨w, _, rfl⟩ := List.mem_map.1 hC
 exact (chs_is l w).nodup
theorem least_ex {S : Int → Prop} : ∀ (n : Nat) (c : Int), S c → (∀ d, S d → 0 ≤ d) → c.toNat ≤ n → ∃ m, Least S m ∧ m ≤ c
 | 0, c, hc, h0, hn => ⟨c, ⟨hc, fun d hd => by have := h0 d hd; have := h0 c hc; omega⟩, Int.le_refl _⟩
 | n + 1, c, hc, h0, hn => by
  by_cases hd : ∃ d, S d ∧ d < c
  ·obtain ⟨d, hd, hlt⟩ := hd
   have := h0 d hd
   obtain ⟨m, h1, h2⟩ := least_ex n d hd h0 (by omega)
   exact ⟨m, h1, by omega⟩
  ·exact ⟨c, ⟨hc, fun d hd' => by
    rcases Int.lt_or_le d c with h | h
    ·exact absurd ⟨d, hd', h⟩ hd
    ·exact h⟩, Int.le_refl _⟩
theorem chs_of_cost (h : Proper l) {w t : ByteArray} {c : Int} (hc : CostIn l w t c) : ∃ d, (t, d) ∈ chs l w ∧ d ≤ c ∧ 0 ≤ d := by
 obtain ⟨m, h1, h2⟩ := least_ex c.toNat c hc (fun d hd => cost_pos h hd) (Nat.le_refl _)
 exact ⟨m, ((chs_is l w).mem t m).2 h1, h2, cost_pos h h1.1⟩
theorem own_picks (h : Proper l) : ∀ W : List ByteArray, Picks (chsW l W) (W.map (fun w => (w, 0)))
 | [] => .nil
 | w :: W => .cons (chs_own h w) (own_picks h W)
theorem own_sum : ∀ W : List ByteArray, sumC (W.map (fun w => (w, (0 : Int)))) = 0
 | [] => rfl
 | w :: W => by rw [List.map_cons, sumC_cons, own_sum W]; rfl
variable {all : List (List ByteArray × Int)}
theorem SpellOf.spelt (h : SpellOf l W all 0) : Spelt l W all := by
 rcases h with ⟨_, _, h⟩ | ⟨_, _, _, h⟩ | ⟨⟨h1, h2⟩, h3, _, h4, h5, h6⟩
 ·cases h
 ·cases h
 ·exact ⟨h1, h2, h3, h4, h5, h6⟩
theorem Spelt.uniq (h : Spelt l W all) {t : List ByteArray} {c d : Int} (hc : (t, c) ∈ all) (hd : (t, d) ∈ all) : c = d := by
 obtain ⟨ps, h1, e1⟩ := (h.mem _).1 hc
 obtain ⟨qs, h2, e2⟩ := (h.mem _).1 hd
 obtain ⟨e3, e4⟩ := Prod.mk.inj e1
 obtain ⟨e5, e6⟩ := Prod.mk.inj e2
 have := h1.uniq (chsW_nodup l W) h2 (e3.symm.trans e5)
 rw [e4, e6, this]
theorem Spelt.own (h : Spelt l W all) : (W, 0) ∈ all := (h.mem _).2 ⟨_, own_picks h.ok W, by rw [own_sum, List.map_map]; simp [Function.comp_def]⟩
/-- A word that is the one at its place, replaced by the Full of an abbreviation. -/
theorem Spelt.replace (h : Spelt l W all) {x : List ByteArray × Int} (hx : x ∈ all) {k : Nat} {w : ByteArray} (hw : W[k]? = some w) (ht : x.1[k]? = some w) {s : Sht} (hs : s ∈ l) (he : s.short = w) :
  ∃ c, (x.1.set k s.full, c) ∈ all ∧ 0 ≤ c ∧ c ≤ x.2 + s.cost := by
 obtain ⟨ps, h1, rfl⟩ := (h.mem _).1 hx
 rw [List.getElem?_map] at ht
 obtain ⟨p, hp, e1⟩ := Option.map_eq_some_iff.1 ht
 obtain ⟨C, hC, hpC⟩ := h1.get hp
 rw [chsW_get hw] at hC
 obtain rfl := Option.some.inj hC
 obtain ⟨t, c⟩ := p
 simp only at e1
 subst e1
 have hc : c = 0 := fst_uniq (chs_is l t).nodup hpC (chs_own h.ok t)
 subst hc
 obtain ⟨d, hd, hle, _⟩ := chs_of_cost h.ok (.inr ⟨s, hs, he, rfl, rfl⟩ : CostIn l t s.full s.cost)
 have hm := (h.mem (((ps.set k (s.full, d)).map (·.1)), sumC (ps.set k (s.full, d)))).2 ⟨_, h1.set (chsW_get hw) hd, rfl⟩
 have h0 := (h.length hm).2
 rw [sumC_set _ hp] at hm h0
 rw [List.map_set] at hm
 exact ⟨_, hm, h0, by simp only; omega⟩
theorem cost_rev (w t : ByteArray) (c : Int) : CostIn l w t c ↔ CostIn l.reverse w t c := by
 unfold CostIn; simp only [List.mem_reverse]
theorem proper_rev : Proper l ↔ Proper l.reverse :=
 ⟨fun h => ⟨by rw [List.length_reverse]; exact h.most, fun s hs => h.each s (List.mem_reverse.1 hs), (List.reverse_perm l).nodup_iff.2 h.once⟩,
 fun h => ⟨by have := h.most; rwa [List.length_reverse] at this, fun s hs => h.each s (List.mem_reverse.2 hs), (List.reverse_perm l).nodup_iff.1 h.once⟩⟩
def Sht.other (g : ByteArray) (s : Sht) : Sht := ⟨g, s.short, s.full, s.cost⟩
theorem cost_other (g w t : ByteArray) (c : Int) : CostIn l w t c ↔ CostIn (l.map (Sht.other g)) w t c := by
 unfold CostIn
 constructor
 ·rintro (h | ⟨s, hs, h⟩)
  ·exact .inl h
  ·exact .inr ⟨_, List.mem_map.2 ⟨s, hs, rfl⟩, h⟩
 ·rintro (h | ⟨s, hs, h⟩)
  ·exact .inl h
  ·obtain ⟨s', hs', rfl⟩ := List.mem_map.1 hs
   exact .inr ⟨s', hs', h⟩
/-- A further abbreviation. -/
theorem Spelt.more {s : Sht} {c : List (List ByteArray × Int)} (h : Spelt l W all) (k : Spelt (l ++ [s]) W c) {x : List ByteArray × Int} (hx : x ∈ all) : ∃ d, (x.1, d) ∈ c ∧ 0 ≤ d ∧ d ≤ x.2 := by
 obtain ⟨ps, h1, rfl⟩ := (h.mem _).1 hx
 have key : ∀ (W : List ByteArray) (ps : List (ByteArray × Int)), Picks (chsW l W) ps → ∃ qs, Picks (chsW (l ++ [s]) W) qs ∧ qs.map (·.1) = ps.map (·.1) ∧ sumC qs ≤ sumC ps := by
  intro W
  induction W with
  | nil => intro ps hp; cases hp; exact ⟨[], .nil, rfl, Int.le_refl _⟩
  | cons w W ih =>
   intro ps hp
   cases hp with
   | cons hp hs =>
    rename_i p ps
    obtain ⟨qs, q1, q2, q3⟩ := ih ps hs
    have hc : CostIn (l ++ [s]) w p.1 p.2 := by
     rcases (((chs_is l w).mem p.1 p.2).1 hp).1 with e | ⟨r, hr, e⟩
     ·exact .inl e
     ·exact .inr ⟨r, List.mem_append_left _ hr, e⟩
    obtain ⟨d, d1, d2, _⟩ := chs_of_cost k.ok hc
    refine ⟨(p.1, d) :: qs, .cons d1 q1, by rw [List.map_cons, List.map_cons, q2], ?_⟩
    rw [sumC_cons, sumC_cons]
    simp only
    omega
 obtain ⟨qs, q1, q2, q3⟩ := key W ps h1
 have hm := (k.mem (qs.map (·.1), sumC qs)).2 ⟨qs, q1, rfl⟩
 refine ⟨sumC qs, ?_, (k.length hm).2, q3⟩
 rw [← q2]; exact hm
theorem chsW_append (V W : List ByteArray) : chsW l (V ++ W) = chsW l V ++ chsW l W := List.map_append
/-- Both lists of words together. -/
theorem Spelt.join {a b c : List (List ByteArray × Int)} (h : Spelt l V a) (k : Spelt l W b) (hc : Spelt l (V ++ W) c) : c.length = a.length * b.length ∧ ∀ x ∈ a, ∀ y ∈ b, (x.1 ++ y.1, x.2 + y.2) ∈ c := by
 refine ⟨by rw [hc.len, h.len, k.len, chsW_append, prodN_append], fun x hx y hy => ?_⟩
 obtain ⟨ps, h1, rfl⟩ := (h.mem _).1 hx
 obtain ⟨qs, k1, rfl⟩ := (k.mem _).1 hy
 exact (hc.mem _).2 ⟨ps ++ qs, by rw [chsW_append]; exact h1.append k1, by rw [List.map_append, sumC_append]⟩
theorem join_limit {a b : List (List ByteArray × Int)} (h : Spelt l V a) (k : Spelt l W b) (h12 : V.length + W.length ≤ 12) {c : List (List ByteArray × Int)} {e : Int} (hc : SpellOf l (V ++ W) c e) : e = 0 ∨ (e = 2 ∧ 64 < a.length * b.length) := by
 have hp : Plain (V ++ W) := ⟨by rw [List.length_append]; have := h.plain.1; omega, by rw [List.length_append]; omega, fun w hw => (List.mem_append.1 hw).elim (h.plain.2.2 w) (k.plain.2.2 w)⟩
 rcases hc with ⟨h1, _⟩ | ⟨_, h2, _, rfl⟩ | ⟨_, _, rfl, _⟩
 ·exact absurd ⟨h.ok, hp⟩ h1
 ·refine .inr ⟨rfl, ?_⟩
  rw [chsW_append, prodN_append] at h2
  rw [h.len, k.len]; exact h2
 ·exact .inl rfl
theorem more_limit {s : Sht} (hW : Plain W) (hP : Proper (l ++ [s])) {c : List (List ByteArray × Int)} {e : Int} (hc : SpellOf (l ++ [s]) W c e) : e = 0 ∨ e = 2 := by
 rcases hc with ⟨h1, _⟩ | ⟨_, _, _, rfl⟩ | ⟨_, _, rfl, _⟩
 ·exact absurd ⟨hP, hW⟩ h1
 ·exact .inr rfl
 ·exact .inl rfl
end
end Go.Proofs.YthachfkcgdfdfaaGreatDoor
namespace Go.Proofs.YthachfkcgdfdfaaGreatDoor
open Go.RowKit Go.Shelf Classical

section
variable {w w' : World} {B B' : Nat} {a : Option Addr} {L : List Spl}
end
/-- The cost of a list of words among spellings; -1 if it is not there. -/
noncomputable def findC : List (List ByteArray × Int) → List ByteArray → Int
 | [], _ => -1
 | p :: l, ws => if p.1 = ws then p.2 else findC l ws
theorem findC_mem {ws : List ByteArray} {c : Int} : ∀ {l : List (List ByteArray × Int)}, (∀ d e, (ws, d) ∈ l → (ws, e) ∈ l → d = e) → (ws, c) ∈ l → findC l ws = c
 | p :: l, hu, h => by
  rw [findC]
  by_cases e : p.1 = ws
  ·rw [if_pos e]
   exact hu _ _ (by rw [← e]; exact List.mem_cons_self ..) h
  ·rw [if_neg e]
   rcases List.mem_cons.1 h with h | h
   ·exact absurd (congrArg Prod.fst h).symm e
   ·exact findC_mem (fun d e h1 h2 => hu d e (List.mem_cons_of_mem _ h1) (List.mem_cons_of_mem _ h2)) h
theorem Spelt.find {l : List Sht} {W : List ByteArray} {all : List (List ByteArray × Int)} (h : Spelt l W all) {ws : List ByteArray} {c : Int} (hm : (ws, c) ∈ all) : findC all ws = c := findC_mem (fun _ _ h1 h2 => h.uniq h1 h2) hm
theorem findC_drop {l : List (List ByteArray × Int)} {ws : List ByteArray} {k : Nat} (hk : k < l.length) : findC (l.drop k) ws = if l[k].1 = ws then l[k].2 else findC (l.drop (k + 1)) ws := by
 rw [List.drop_eq_getElem_cons hk, findC]

set_option maxRecDepth 100000 in
set_option maxHeartbeats 1000000 in
theorem Find_any (L : List Spl) (ws : List ByteArray) (la wa : Option Addr) (lc wc : Nat) (hL : L.length ≤ maxLen) (w : World) (h : SplsAt w w.heap.size la L) (hw : RowAt w w.heap.size wa (strs ws)) :
  Calls Tryz.prog 27 #[.slice la L.length lc, .slice wa ws.length wc] w fun e w' => e = .returned (.int .i64 (findC (L.map Spl.key) ws)) ∧ ∃ q, w' = w.drewN q := by
 unfold maxLen at hL
 have H := Lib.hid (And.intro h hw)
 clear h hw
 go_enter Tryz.func27, Tryz.ntmps27
 go_wp2_with fail
 go_loopw [5] (fun i wr => ∃ k : Nat, k ≤ L.length ∧ i = .int .i64 k ∧ findC (L.map Spl.key) ws = findC ((L.map Spl.key).drop k) ws ∧ ∃ q, wr = w.drewN q) (fun i _ => L.length - (intOf i).toNat)
 case atStart => exact ⟨0, Nat.zero_le _, rfl, rfl, 0, rfl⟩
 case round =>
  obtain ⟨k, hk, rfl, hto, q, hq⟩ := hrel
  have Hto := Lib.hid hto
  have Hq := Lib.hid hq
  clear hto hq
  by_cases hka : k < L.length
  ·obtain ⟨g, o, rfl, hg, hc⟩ := H.out.1.get (by omega)
   have x0 : wr.cell? ⟨g, o + k * 2, none⟩ = some (.slice L[k].at_ L[k].ws.length L[k].cap) := by rw [Hq.out]; exact (hc k hka).1
   have x1 : wr.cell? ⟨g, o + k * 2 + 1, none⟩ = some (.int .i64 L[k].cost) := by rw [Hq.out]; exact (hc k hka).2
   clear hc
   obtain ⟨x, hx⟩ : ∃ x, L[k] = x := ⟨_, rfl⟩
   rw [hx] at x0 x1
   have hok := H.out.1.ok x (by rw [← hx]; exact List.getElem_mem hka)
   have HT := Lib.hid (Texts17_q x.ws ws x.at_ wa x.cap wc w.heap.size hok.1 wr (by rw [Hq.out]; exact hok.2) (by rw [Hq.out]; exact H.out.2))
   have hd := findC_drop (l := L.map Spl.key) (ws := ws) (k := k) (by simpa using hka)
   rw [List.getElem_map, hx] at hd
   have Hd := Lib.hid (Hto.out.trans hd)
   clear hd hx hok
   by_cases he : x.ws = ws
   ·have d1 : decide (x.ws = ws) = true := decide_eq_true he
    have He := Lib.hid (show findC (L.map Spl.key) ws = x.cost by rw [Hd.out]; exact if_pos he)
    have Hd1 := Lib.hid d1
    clear he d1
    go_wp2_with (refine HT.out.mono ?_; rintro e w1 ⟨rfl, q1, hq1⟩; rw [Hd1.out]; have y1 : w1.cell? ⟨g, o + k * 2 + 1, none⟩ = some (.int .i64 x.cost) := (by rw [hq1]; exact x1); have Hq1 := Lib.hid hq1; clear hq1)
    go_ret
    exact ⟨ret_int He.out.symm, _, by rw [Hq1.out, Hq.out, World.drewN_drewN]⟩
   ·have d1 : decide (x.ws = ws) = false := decide_eq_false he
    have He := Lib.hid (show findC (L.map Spl.key) ws = findC ((L.map Spl.key).drop (k + 1)) ws by rw [Hd.out]; exact if_neg he)
    have Hd1 := Lib.hid d1
    clear he d1
    go_wp2_with (refine HT.out.mono ?_; rintro e w1 ⟨rfl, q1, hq1⟩; rw [Hd1.out]; have Hq1 := Lib.hid hq1; clear hq1)
    exact ⟨⟨k + 1, by omega, by go_num, He.out, _, by rw [Hq1.out, Hq.out, World.drewN_drewN]⟩, by simp [intOf]; omega⟩
  ·have He := Lib.hid (show findC (L.map Spl.key) ws = -1 by rw [Hto.out, List.drop_of_length_le (by rw [List.length_map]; omega)]; rfl)
   go_wp2_with fail
   go_ret
   exact ⟨ret_int He.out.symm, _, Hq.out⟩
end Go.Proofs.YthachfkcgdfdfaaGreatDoor
namespace Go.Proofs.YthachfkcgdfdfaaGreatDoor
open Go.RowKit Classical

/-- A test that says no more than this where it says yes. -/
def TestPost (P : Prop) (e : Ending) : Prop := ∃ q : Bool, e = .returned (.bool q) ∧ (q = true → P)
theorem test_no (P : Prop) : TestPost P (.returned (.bool false)) := ⟨false, rfl, fun h => by cases h⟩
theorem test_of {P : Prop} {q : Bool} (h : q = true → P) : TestPost P (.returned (.bool q)) := ⟨q, rfl, h⟩
set_option maxRecDepth 100000 in
set_option maxHeartbeats 2000000 in
theorem Few17_any (l : List Sht) (W : List ByteArray) (la wa : Option Addr) (lc wc : Nat) (hl : l.length ≤ maxLen) (hW : W.length ≤ maxLen) (hfit : ∀ s ∈ l, s.fits) (hsz : ∀ s ∈ W, s.size ≤ maxLen) (w : World) (h : RowsAt w w.heap.size 4 la (l.map Sht.cells)) (hw : RowAt w w.heap.size wa (strs W)) :
  Calls Tryz.prog 11 #[.slice la l.length lc, .slice wa W.length wc] w fun e w' => TestPost (l.length ≤ 110 ∧ W.length ≤ 14) e ∧ w' = w := by
 unfold maxLen at hl hW hsz
 go_enter Tryz.func11, Tryz.ntmps11
 go_wp2_with fail
 go_loop [5] (fun i => ∃ k : Nat, k ≤ l.length ∧ k ≤ 110 ∧ i = .int .i64 k) (fun i => l.length - (intOf i).toNat)
 case atStart => exact ⟨0, Nat.zero_le _, Nat.zero_le _, rfl⟩
 case round =>
  obtain ⟨k, hk, hk2, rfl⟩ := hrel
  by_cases hlt : k < l.length ∧ k < 110
  ·obtain ⟨hlt, hm⟩ := hlt
   obtain ⟨b, off, rfl, hb, hc⟩ := h.shts (by omega)
   obtain ⟨k0, k1, k2, -⟩ := hc k hlt
   have hf := hfit _ (List.getElem_mem hlt)
   obtain ⟨x, hx⟩ : ∃ x, x = l[k] := ⟨_, rfl⟩
   rw [← hx] at k0 k1 k2 hf
   obtain ⟨f1, f2, f3⟩ := hf
   unfold maxLen at f1 f2 f3
   clear hc hx
   by_cases hy : x.short.size ≤ 200 ∧ x.full.size ≤ 200 ∧ x.lang.size ≤ 200
   ·obtain ⟨y1, y2, y3⟩ := hy
    go_wp2
    exact ⟨⟨k + 1, by omega, by omega, by go_num⟩, by simp [intOf]; omega⟩
   ·have Hny := Lib.hid hy
    clear hy
    go_wp2
    all_goals first
     | (go_ret; exact ⟨test_no _, rfl⟩)
     | (exfalso; have := Hny.out; omega)
  ·have Hno := Lib.hid hlt
   have hor : (k < l.length ∧ 110 ≤ k) ∨ l.length ≤ k := by omega
   clear hlt
   have go2 : ∀ {Q : Prop}, (k < l.length → 110 ≤ k → Q) → (l.length ≤ k → Q) → Q := fun h1 h2 => hor.elim (fun q => h1 q.1 q.2) h2
   clear hor
   refine go2 (fun g1 g2 => ?_) (fun g1 => ?_)
   all_goals (
    clear go2
    go_wp2_with fail
    go_loop [6] (fun i => ∃ j : Nat, j ≤ W.length ∧ j ≤ 14 ∧ i = .int .i64 j) (fun i => W.length - (intOf i).toNat)
    case atStart => exact ⟨0, Nat.zero_le _, Nat.zero_le _, rfl⟩
    case round =>
     obtain ⟨j, hj, hj2, rfl⟩ := hrel
     by_cases hlt : j < W.length ∧ j < 14
     ·obtain ⟨hlt, hm⟩ := hlt
      obtain ⟨b, off, rfl, hb, hc⟩ := hw.strs (by omega)
      have k0 := hc j hlt
      have hs := hsz _ (List.getElem_mem hlt)
      obtain ⟨x, hx⟩ : ∃ x, x = W[j] := ⟨_, rfl⟩
      rw [← hx] at k0 hs
      clear hc hx
      by_cases hy : x.size ≤ 200
      ·go_wp2
       exact ⟨⟨j + 1, by omega, by omega, by go_num⟩, by simp [intOf]; omega⟩
      ·go_wp2
       go_ret
       exact ⟨test_no _, rfl⟩
     ·by_cases g3 : j < W.length
      ·have g4 : 14 ≤ j := by omega
       clear hlt
       go_wp2
       all_goals (go_ret; first | exact ⟨test_no _, rfl⟩ | exact ⟨test_of (fun h => by first | (exfalso; revert h; simp; omega) | (simp at h; omega)), rfl⟩)
      ·clear hlt
       go_wp2
       all_goals (go_ret; first | exact ⟨test_no _, rfl⟩ | exact ⟨test_of (fun h => by first | (simp at h; omega) | omega), rfl⟩))

end Go.Proofs.YthachfkcgdfdfaaGreatDoor
namespace Go.Proofs.YthachfkcgdfdfaaGreatDoor
open Go.ChangeShapes Go.WideShapes Go.ChangeAt Go.RowKit Go.Joins Go.Deep
set_option maxRecDepth 100000
section
variable {H : Type} {enc : TypeId × Value → H} {w : World}

theorem cell_lt' {p : Addr} {v : Value} (h : w.cell? p = some v) : p.block < w.heap.size := by
 unfold World.cell? at h
 split at h
 ·rename_i e; exact (Array.getElem?_eq_some_iff.1 e).1
 ·cases h
theorem add_plain' {a : Addr} (h : a.spot = none) (i : Nat) : a.add i = ⟨a.block, a.off + i, none⟩ := by
 unfold Addr.add
 split
 ·rename_i e; subst e; cases a; simp_all
 ·rfl
theorem row_of_cells {a : Addr} {xs : List Value} (h : ∀ i x, xs[i]? = some x → w.cell? (a.add i) = some x) : RowAt w w.heap.size (some a) xs := fun h0 => by
 have h1 := h 0 _ (List.getElem?_eq_getElem h0)
 have e0 : a.add 0 = a := rfl
 rw [e0] at h1
 have hs := World.cell?_spot h1
 refine ⟨a.block, a.off, by cases a; simp_all, cell_lt' h1, fun i x hx => ?_⟩
 rw [← add_plain' hs]
 exact h i x hx

theorem read_strs {n : Nat} {v : Value} {y : DataW H × List MemPlace} (h : DataW.trod enc Tryz.prog w 0 (fun _ => true) true n 29 [v] = some y) :
  ∃ (a : Option Addr) (c : Nat) (l : List ByteArray), v = .slice a l.length c ∧ l.length ≤ maxLen ∧ (∀ s ∈ l, s.size ≤ maxLen) ∧ RowAt w w.heap.size a (strs l) := by
 rcases open_strs Tryz.underlying29 Tryz.underlying9 (by kernel_rfl) h with ⟨hcs, _⟩ | ⟨a, len, cap, m, Sx, hcs, _, hl, hm, hmm, _, hx⟩
 ·exact ⟨none, 0, [], by simpa using hcs, by simp, by simp, fun h => by simp [strs] at h⟩
 ·have hmm' : m = cap := by simpa using hmm
  refine ⟨some a, cap, (List.range len).map Sx, by simpa using hcs, by simp; omega, ?_, row_of_cells fun i x hi => ?_⟩
  ·intro s hs
   obtain ⟨i, hi, rfl⟩ := List.mem_map.1 hs
   have := List.mem_range.1 hi
   exact (hx i (by omega)).2
  ·have hi' : i < len := by
    have := (List.getElem?_eq_some_iff.1 hi).1
    simpa [strs] using this
   rw [(hx i (by omega)).1]
   simpa [strs, hi'] using hi

end

end Go.Proofs.YthachfkcgdfdfaaGreatDoor

namespace Go.Proofs.YthachfkcgdfdfaaGreatDoor
open Go.ChangeShapes Go.WideShapes Go.ChangeAt Go.RowKit Go.Joins Go.Deep
set_option maxRecDepth 100000
section
variable {H : Type} {enc : TypeId × Value → H} {w : World}

end
end Go.Proofs.YthachfkcgdfdfaaGreatDoor

namespace Go.Proofs.YthachfkcgdfdfaaGreatDoor
open Go.ChangeShapes Go.WideShapes Go.ChangeAt Go.RowKit Go.Joins Go.Deep
set_option maxRecDepth 100000

end Go.Proofs.YthachfkcgdfdfaaGreatDoor
namespace Go.Proofs.YthachfkcgdfdfaaGreatDoor
open Go.ChangeShapes Go.WideShapes Go.ChangeAt Go.RowKit Go.Joins Go.Deep
set_option maxRecDepth 100000
section
variable {H : Type} {enc : TypeId × Value → H} {w : World}

theorem cSht : Tryz.prog.cellsOf 54 = 4 := by kernel_rfl

theorem read_shtC {n : Nat} {cs : List Value} {y : DataW H × List MemPlace} (h : DataW.trod enc Tryz.prog w 0 (fun _ => true) true n 54 cs = some y) (hl : cs.length = 4) : ∃ r : Sht, cs = r.cells ∧ r.fits := by
 obtain ⟨x0, x1, x2, x3, m, _, _, t0, t1, t2, t3⟩ := trod_struct4 Tryz.underlying54 h
 match cs, hl with
 | [k0, k1, k2, k3], _ =>
  simp only [c9, c3, List.drop_zero, List.drop_succ_cons, List.take_succ_cons, List.take_zero] at t0 t1 t2 t3
  obtain ⟨s0, e0, _, z0⟩ := DataW.trod_string Tryz.underlying9 t0
  obtain ⟨s1, e1, _, z1⟩ := DataW.trod_string Tryz.underlying9 t1
  obtain ⟨s2, e2, _, z2⟩ := DataW.trod_string Tryz.underlying9 t2
  obtain ⟨b, e3, _⟩ := DataW.trod_int Tryz.underlying3 t3
  simp only [List.cons.injEq, and_true] at e0 e1 e2 e3
  subst e0 e1 e2 e3
  exact ⟨⟨s0, s1, s2, b⟩, rfl, z0, z1, z2⟩
/-- A slice whose elements have k cells each. -/
theorem read_slice {α : Type} [Inhabited α] {t e : TypeId} {k : Nat} {cells : α → List Value} {Ok : α → Prop} (ht : Tryz.prog.underlying t = some (.slice e)) (hk : Tryz.prog.cellsOf e = k) (hk0 : 0 < k) (hcl : ∀ x, (cells x).length = k)
  (hread : ∀ {n : Nat} {cs : List Value} {y : DataW H × List MemPlace}, DataW.trod enc Tryz.prog w 0 (fun _ => true) true n e cs = some y → cs.length = k → ∃ r : α, cs = cells r ∧ Ok r)
  {n : Nat} {v : Value} {y : DataW H × List MemPlace} (h : DataW.trod enc Tryz.prog w 0 (fun _ => true) true n t [v] = some y) :
  ∃ (a : Option Addr) (c : Nat) (l : List α), v = .slice a l.length c ∧ l.length ≤ maxLen ∧ l.length ≤ c ∧ (∀ r ∈ l, Ok r) ∧ RowsAt w w.heap.size k a (l.map cells) := by
 rcases open_slice ht h with ⟨hcs, _⟩ | ⟨a, len, cap, m, q, D, Pl, hcs, _, hl, hm, hmm, _, hx⟩
 ·exact ⟨none, 0, [], by simpa using hcs, by simp, by simp, by simp, fun h => by simp at h⟩
 ·have hmm' : m = cap := by simpa using hmm
  have each : ∀ i, ∃ r : α, i < len → Ok r ∧ ∀ j x, (cells r)[j]? = some x → w.cell? ((a.add (i * k)).add j) = some x := fun i => by
   by_cases hi : i < len
   ·obtain ⟨cs', h1, h2⟩ := hx i (by omega)
    rw [hk] at h1
    obtain ⟨_, h3, h4⟩ := World.cells?_some h1
    obtain ⟨r, rfl, z0⟩ := hread h2 h3
    refine ⟨r, fun _ => ⟨z0, fun j x hj => ?_⟩⟩
    rw [h4 j (by have := (List.getElem?_eq_some_iff.1 hj).1; omega)]
    exact hj
   ·exact ⟨default, fun h => absurd h hi⟩
  obtain ⟨R, hR⟩ := Classical.axiomOfChoice each
  refine ⟨some a, cap, (List.range len).map R, by simpa using hcs, by simp; omega, by simp; omega, ?_, fun h0 => ?_⟩
  ·intro r hr
   obtain ⟨i, hi, rfl⟩ := List.mem_map.1 hr
   exact (hR i (List.mem_range.1 hi)).1
  ·have h0' : 0 < len := by simpa using h0
   have h1 := (hR 0 h0').2 0 _ (List.getElem?_eq_getElem (by rw [hcl]; exact hk0))
   rw [Nat.zero_mul] at h1
   have e0 : (a.add 0).add 0 = a := rfl
   rw [e0] at h1
   have hs := World.cell?_spot h1
   refine ⟨a.block, a.off, by cases a; simp_all, cell_lt' h1, fun i r hi j x hj => ?_⟩
   have hi' : i < len := by
    have := (List.getElem?_eq_some_iff.1 hi).1
    simpa using this
   have hr : r = cells (R i) := by simpa [hi'] using hi.symm
   subst hr
   have := (hR i hi').2 j x hj
   rw [add_plain' hs, add_plain' rfl] at this
   exact this
instance : Inhabited Sht := ⟨⟨⟨#[]⟩, ⟨#[]⟩, ⟨#[]⟩, 0⟩⟩
theorem read_shts {n : Nat} {v : Value} {y : DataW H × List MemPlace} (h : DataW.trod enc Tryz.prog w 0 (fun _ => true) true n 28 [v] = some y) :
  ∃ (a : Option Addr) (c : Nat) (l : List Sht), v = .slice a l.length c ∧ l.length ≤ maxLen ∧ l.length ≤ c ∧ (∀ r ∈ l, r.fits) ∧ RowsAt w w.heap.size 4 a (l.map Sht.cells) :=
 read_slice Tryz.underlying28 cSht (by decide) (fun _ => rfl) (fun h hl => read_shtC h hl) h
theorem read_Short {b0 : Nat} {v : Value} {d : DataW H} {p : List MemPlace} (hv : Value.okWide Tryz.prog w .any b0 54 v) (h : DataW.Trod enc Tryz.prog w 0 (fun _ => true) true 54 v d p) :
  ∃ s : Sht, v = shtV s ∧ s.fits := by
 obtain ⟨v0, v1, v2, v3, y0, y1, y2, y3, n, rfl, _, _, t0, t1, t2, t3⟩ := open_agg4 Tryz.underlying54 (by kernel_rfl) (by kernel_rfl) hv h
 obtain ⟨s0, e0, _, z0⟩ := DataW.trod_string Tryz.underlying9 t0
 obtain ⟨s1, e1, _, z1⟩ := DataW.trod_string Tryz.underlying9 t1
 obtain ⟨s2, e2, _, z2⟩ := DataW.trod_string Tryz.underlying9 t2
 obtain ⟨n3, e3, _⟩ := DataW.trod_int Tryz.underlying3 t3
 simp only [List.cons.injEq, and_true] at e0 e1 e2 e3
 subst e0 e1 e2 e3
 exact ⟨⟨s0, s1, s2, n3⟩, rfl, z0, z1, z2⟩
theorem read_shtsV {b0 : Nat} {v : Value} {d : DataW H} {p : List MemPlace} (hv : Value.okWide Tryz.prog w .any b0 28 v) (h : DataW.Trod enc Tryz.prog w 0 (fun _ => true) true 28 v d p) :
  ∃ (a : Option Addr) (c : Nat) (l : List Sht), v = .slice a l.length c ∧ l.length ≤ maxLen ∧ l.length ≤ c ∧ (∀ r ∈ l, r.fits) ∧ RowsAt w w.heap.size 4 a (l.map Sht.cells) := by
 obtain ⟨a, n, c, rfl⟩ := okWide_slice Tryz.underlying28 hv
 obtain ⟨m, h⟩ := h
 exact read_shts h
theorem read_strsV {b0 : Nat} {v : Value} {d : DataW H} {p : List MemPlace} (hv : Value.okWide Tryz.prog w .any b0 29 v) (h : DataW.Trod enc Tryz.prog w 0 (fun _ => true) true 29 v d p) :
  ∃ (a : Option Addr) (c : Nat) (l : List ByteArray), v = .slice a l.length c ∧ l.length ≤ maxLen ∧ (∀ s ∈ l, s.size ≤ maxLen) ∧ RowAt w w.heap.size a (strs l) := by
 obtain ⟨a, n, c, rfl⟩ := okWide_slice Tryz.underlying29 hv
 obtain ⟨m, h⟩ := h
 exact read_strs h
end
end Go.Proofs.YthachfkcgdfdfaaGreatDoor
