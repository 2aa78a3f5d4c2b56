/- C5 -/
import Derived.Test.YthachfkcgdfdfaaGreatDoorP15
/- Walk: machines of rules (compile.Compile). -/
namespace Go.Proofs.YthachfkcgdfdfaaGreatDoor
open Go.RowKit Classical

theorem MapIs.length {P : Program} {w : World} {b : Nat} {Ok : Value → Prop} {l : List (Value × Value)} {k e t : TypeId} (h : MapIs w b Ok l) (ht : P.underlying t = some (.map k e)) (ty : TypeId) :
  (Builtin.len_ #[t] ty #[.map (some b)]).run P w = .ok (.int .i64 (l.length : Int)) w := by
 obtain ⟨es, clock, hb, _, _, rfl⟩ := h
 simp [Builtin.len_, run_underlying ht, MapKept.run_getObj_map hb, goInt, Result.andThen]
theorem info_map : (Tryz.prog.info? 218).map (fun i => (i.zero, i.size, i.bytes)) = some (some (.map none), 1, 8) := by kernel_rfl

/-- One append to a row that the maker holds, and its store. -/
theorem maker_lead {w w6 : World} {mb cb ab base : Nat} {A : Alph} {la sa : Option Addr} {lc sc : Nat} {lv av lv' : Value} {RL : List RulL} {leads bs : List Nat} {O : Obj} {n : Nat} {xs : List Value}
  (h : MkSt w mb cb ab base A la sa lc sc lv av RL leads bs) (hown : w6.ownsRow base 3 1 lv' n xs) (hg : (w.alloc O).grownBy w6 lv.ownBlock) :
  MkIs (w6.setCell ⟨mb, 4, none⟩ lv') mb A la sa lc sc cb lv' av ab ∧ (w6.setCell ⟨mb, 4, none⟩ lv').ownsRow base 3 1 lv' n xs ∧ (w6.setCell ⟨mb, 4, none⟩ lv').ownsRow base 218 1 av bs.length (bs.map fun b : Nat => Value.map (some b)) ∧
   Chg (fun k => k = mb ∨ lv.ownBlock = some k ∨ av.ownBlock = some k ∨ w.heap.size ≤ k) w (w6.setCell ⟨mb, 4, none⟩ lv') := by
 have hm6 : Blk w6 mb _ 217 := (Blk.alloc h.maker O).grown hg (fun e => Blk.own_ne h.maker h.lv (by decide) e.symm)
 have ha6 := own_kept_other (h.av.alloc O) (h.lv.alloc O) (by decide) hg
 refine ⟨hm6.set_ 4 lv', own_setCell hown (p := ⟨mb, 4, none⟩) (fun e => hm6.own_ne hown (by decide) e) _, own_setCell ha6 (p := ⟨mb, 4, none⟩) (fun e => hm6.own_ne ha6 (by decide) e) _, ?_⟩
 refine ((Chg.alloc _ w O).trans (Chg.of_grown hg (fun r hr => .inl (.inr (.inl hr))))).trans (Chg.setCell _ (.inl (.inl rfl)) _)
theorem maker_after {w w0 w7 : World} {mb cb ab base : Nat} {A : Alph} {la sa : Option Addr} {lc sc : Nat} {lv av av' : Value} {O : Obj} {n m k : Nat} {xs ys zs : List Value} {S : Nat → Prop}
  (hm : MkIs w mb A la sa lc sc cb lv av ab) (hl : w.ownsRow base 3 1 lv n xs) (ha : w.ownsRow base 218 1 av m ys) (hc : Chg S w0 w) (hS1 : S mb) (hS2 : ∀ k, av.ownBlock = some k → S k)
  (hown : w7.ownsRow base 218 1 av' k zs) (hg : (w.alloc O).grownBy w7 av.ownBlock) :
  MkIs (w7.setCell ⟨mb, 5, none⟩ av') mb A la sa lc sc cb lv av' ab ∧ (w7.setCell ⟨mb, 5, none⟩ av').ownsRow base 3 1 lv n xs ∧ (w7.setCell ⟨mb, 5, none⟩ av').ownsRow base 218 1 av' k zs ∧
   Chg S w0 (w7.setCell ⟨mb, 5, none⟩ av') := by
 have hm7 : Blk w7 mb _ 217 := (Blk.alloc hm O).grown hg (fun e => Blk.own_ne hm ha (by decide) e.symm)
 have hl7 := own_kept_other (hl.alloc O) (ha.alloc O) (by decide) hg
 refine ⟨hm7.set_ 5 av', own_setCell hl7 (p := ⟨mb, 5, none⟩) (fun e => hm7.own_ne hl7 (by decide) e) _, own_setCell hown (p := ⟨mb, 5, none⟩) (fun e => hm7.own_ne hown (by decide) e) _, ?_⟩
 exact ((hc.trans (Chg.alloc _ w O)).trans (Chg.of_grown hg (fun r hr => .inl (hS2 r hr)))).trans (Chg.setCell _ (.inl hS1) _)
/-- A rule more: its lead and its letters. -/
theorem MkSt.more {w w' : World} {mb cb ab base : Nat} {A : Alph} {la sa : Option Addr} {lc sc : Nat} {lv av lv' av' : Value} {RL : List RulL} {leads bs : List Nat} {cc : Array Value} {arcs : List Value} {lead b : Nat} {x : RulL} {ks : List Int}
  (h : MkSt w mb cb ab base A la sa lc sc lv av RL leads bs) (hcb : Blk w cb cc 211) (hab : SetIs w ab OkArc arcs) (hs : SetIs w b OkInt (ks.map intV)) (hks : ∀ z : Int, z ∈ ks ↔ z ∈ (readL A.bls x.nxt).letters) (hne : b ≠ ab)
  (hm : MkIs w' mb A la sa lc sc cb lv' av' ab) (hl : w'.ownsRow base 3 1 lv' (leads.length + 1) (natsV leads ++ [.int .i64 lead])) (ha : w'.ownsRow base 218 1 av' (bs.length + 1) ((bs.map fun b : Nat => Value.map (some b)) ++ [.map (some b)]))
  (hc : Chg (fun k => k = mb ∨ lv.ownBlock = some k ∨ av.ownBlock = some k ∨ w.heap.size ≤ k) w w') :
  MkSt w' mb cb ab base A la sa lc sc lv' av' (RL ++ [x]) (leads ++ [lead]) (bs ++ [b]) ∧ Blk w' cb cc 211 ∧ SetIs w' ab OkArc arcs := by
 have hset : ∀ {b' : Nat} {Ok : Value → Prop} {l : List (Value × Value)}, MapIs w b' Ok l → MapIs w' b' Ok l := fun {b' Ok l} hb => by
  refine MapIs.chg hb hc ?_
  rintro (e | e | e | e)
  ·exact Blk.ne_map h.maker hb e.symm
  ·exact own_ne_map h.lv hb e
  ·exact own_ne_map h.av hb e
  ·have := MapIs.lt hb; omega
 refine ⟨⟨hm, ?_, ?_, ?_, ?_, ?_, ?_⟩, Blk.chg hcb hc ?_, hset hab⟩
 ·rw [List.length_append, natsV_append]; exact hl
 ·rw [List.length_append, List.map_append]; exact ha
 ·rw [List.length_append, List.length_append, h.len]; rfl
 ·rw [List.length_append, List.length_append, h.blen]; rfl
 ·intro k b' x' hb' hx'
  rcases Nat.lt_or_ge k bs.length with hk | hk
  ·rw [List.getElem?_append_left hk] at hb'
   rw [List.getElem?_append_left (by rw [← h.blen]; exact hk)] at hx'
   obtain ⟨ks', h1, h2⟩ := h.sets k b' x' hb' hx'
   exact ⟨ks', hset h1, h2⟩
  ·rw [List.getElem?_append_right hk] at hb'
   rw [List.getElem?_append_right (by rw [← h.blen]; exact hk)] at hx'
   have hk0 : k = bs.length := by
    have := (List.getElem?_eq_some_iff.1 hb').1
    simp at this; omega
   subst hk0
   rw [← h.blen] at hx'
   simp at hb' hx'
   subst hb'; subst hx'
   exact ⟨ks, hset hs, hks⟩
 ·intro b' hb'
  rcases List.mem_append.1 hb' with hb' | hb'
  ·exact h.apart b' hb'
  ·rw [List.mem_singleton.1 hb']; exact hne
 ·rintro (e | e | e | e)
  ·exact Blk.ne_blk hcb h.maker (by decide) e
  ·exact hcb.own_ne h.lv (by decide) e
  ·exact hcb.own_ne h.av (by decide) e
  ·have := hcb.lt; omega

theorem leadsFrom_mem_le (s : Nat) (l : List RulL) : ∀ x ∈ leadsFrom s l, x ≤ s + l.length + 2 := by
 induction l generalizing s with
 | nil => simp [leadsFrom]
 | cons y l ih =>
  intro x hx
  rw [leadsFrom] at hx
  rw [List.length_cons]
  split at hx
  ·rcases List.mem_cons.1 hx with e | e
   ·subst e; split <;> omega
   ·have := ih s x e; omega
  ·rcases List.mem_cons.1 hx with e | e
   ·omega
   ·have := ih (s + 1) x e; omega

/-- What the library's sort does to a row of arcs. -/
def SortArcs : Prop := ∀ (l : List Arc) (g c base : Nat) (w : World), l.length ≤ 10000 → w.ownsRow base 177 4 (.slice (some ⟨g, 0, none⟩) l.length c) l.length (flat l) →
 Calls Tryz.prog 158 #[.slice (some ⟨g, 0, none⟩) l.length c, .func (.func 159) #[] #[]] w fun e w' =>
  e = .returned (.tuple #[]) ∧ ∃ S : List Arc, S.length = l.length ∧ (∀ y, y ∈ S ↔ y ∈ l) ∧ (l.Nodup → Increasing S) ∧ w'.ownsRow base 177 4 (.slice (some ⟨g, 0, none⟩) l.length c) l.length (flat S) ∧ Chg (· = g) w w'

/-- How many entries a range has left. -/
noncomputable def leftW (w : World) (b r : Nat) : Nat := match w.heap[b]?, w.heap[r]? with
 | some (.map es _), some (.mapIter _ _ seen _) => (leftOf es seen).size
 | _, _ => 0
theorem RangeIs.leftW {w : World} {b r : Nat} {Ok : Value → Prop} {l left : List (Value × Value)} (h : RangeIs w b r Ok l left) : leftW w b r = left.length := by
 obtain ⟨es, clock, since, seen, c0, h1, _, _, _, h2, _, _, _, rfl⟩ := h
 simp [Go.Proofs.YthachfkcgdfdfaaGreatDoor.leftW, h1, h2]
theorem RangeIs.ne_own {w : World} {b r : Nat} {Ok : Value → Prop} {l left : List (Value × Value)} {base : Nat} {e : TypeId} {size n : Nat} {v : Value} {xs : List Value} (h : RangeIs w b r Ok l left) (ho : w.ownsRow base e size v n xs) : v.ownBlock ≠ some r := by
 obtain ⟨es, clock, since, seen, c0, _, _, _, _, hb, _⟩ := h
 rcases ho.2 with ⟨rfl, _⟩ | ⟨g, cap, cur, rfl, _, hh, _⟩
 ·simp [Value.ownBlock]
 ·intro he
  have : g = r := by simpa [Value.ownBlock] using he
  subst this
  rw [hh] at hb
  cases hb
theorem RangeIs.ne_blk {w : World} {b r : Nat} {Ok : Value → Prop} {l left : List (Value × Value)} {g : Nat} {cs : Array Value} {t : TypeId} (h : RangeIs w b r Ok l left) (ho : Blk w g cs t) : g ≠ r := by
 obtain ⟨es, clock, since, seen, c0, _, _, _, _, hb, _⟩ := h
 intro e
 subst e
 rw [show w.heap[g]? = _ from ho] at hb
 cases hb
theorem length_le_of_nodup {α : Type} [BEq α] [LawfulBEq α] : ∀ {l m : List α}, l.Nodup → (∀ x ∈ l, x ∈ m) → l.length ≤ m.length
 | [], _, _, _ => Nat.zero_le _
 | x :: l, m, hn, hs => by
  have hx := hs x (by simp)
  have h1 := length_le_of_nodup (l := l) (m := m.erase x) (List.nodup_cons.1 hn).2 (fun y hy => by
   refine (List.mem_erase_of_ne (fun e => ?_)).2 (hs y (List.mem_cons_of_mem _ hy))
   subst e; exact (List.nodup_cons.1 hn).1 hy)
  have h2 := List.length_erase_of_mem hx
  have h3 := List.length_pos_of_mem hx
  rw [List.length_cons]; omega
theorem arcs_nodup {w : World} {b : Nat} {l : List Arc} (h : SetIs w b OkArc (l.map arcV)) : l.Nodup :=
 (List.pairwise_map.1 (SetIs.nodup h)).imp (fun {a b} (hne : arcV a ≠ arcV b) (e : a = b) => hne (by rw [e]))
/-- The pairs of a set of arcs. -/
def arcP (x : Arc) : Value × Value := (arcV x, .bool true)
theorem split_arcs {zs : List Arc} {A B : List (Value × Value)} {p : Value × Value} (h : zs.map arcP = A ++ p :: B) : ∃ za z zb, zs = za ++ z :: zb ∧ za.map arcP = A ∧ p = arcP z ∧ zb.map arcP = B := by
 obtain ⟨za, r, rfl, h1, h2⟩ := List.map_eq_append_iff.1 h
 obtain ⟨z, zb, rfl, h3, h4⟩ := List.map_eq_cons_iff.1 h2
 exact ⟨za, z, zb, rfl, h1, h3.symm, h4⟩
theorem compileArcs_ne {L : List (List UInt8)} {l : List RulL} (h : l ≠ []) : compileArcs L l ≠ [] := by
 cases l with
 | nil => exact absurd rfl h
 | cons x r =>
  unfold compileArcs
  rw [leadsFrom]
  split <;> simp [arcsFrom, ruleArcs]

set_option maxRecDepth 100000 in
set_option maxHeartbeats 4000000 in
theorem Compile_any (hsort : SortArcs) (R : Ruls) (A B : Alph) (v va vb : Value) (w : World) (h : RulsAt w w.heap.size v R) (ha : AlphAt w w.heap.size va A) (hb : AlphAt w w.heap.size vb B) :
  Calls Tryz.prog 98 #[v, va, vb] w (CompilePost (Valid11 R A B) R A w) := by
 have hR := h
 have hA := ha
 have hB := hb
 obtain ⟨la, lc, rfl, hs1, hs2, hln, hlr, hl⟩ := h
 obtain ⟨fa, fc, ga, gc, rfl, hn, hl1, hs3, hls, hfl, hfs⟩ := ha
 obtain ⟨fa2, fc2, ga2, gc2, rfl, hn2, hl2, hs4, hls2, hfl2, hfs2⟩ := hb
 unfold maxLen at hln
 have hmm := @run_makeMap Tryz.prog
 go_enter Tryz.func98, Tryz.ntmps98
 go_wp2_with fail
 generalize hW0 : ((((w.alloc _).alloc _).alloc _).alloc _) = W0
 have hw0 : Below w.heap.size w W0 := by rw [← hW0]; exact ((((Below.refl _ _).alloc (Nat.le_refl _) _).alloc (by simp) _).alloc (by simp; omega) _).alloc (by simp; omega) _
 have hsz : W0.heap.size = w.heap.size + 4 := by rw [← hW0]; simp
 have hbr : Box W0 w.heap.size [Value.string R.src, .string R.dst, .slice la R.list.length lc] := by
  rw [← hW0]; exact (((Box.new _ _ _).alloc (by simp) _).alloc (by simp; omega) _).alloc (by simp; omega) _
 have hba : Box W0 (w.heap.size + 1) [Value.string A.name, .slice fa A.letters.length fc, .slice ga A.small.length gc] := by
  rw [← hW0]; have := (Box.new (w.alloc (.cells #[Value.string R.src, .string R.dst, .slice la R.list.length lc] 106)) [Value.string A.name, .slice fa A.letters.length fc, .slice ga A.small.length gc] 89)
  simp at this; exact (this.alloc (by simp) _).alloc (by simp) _
 have hbm : W0.heap[w.heap.size + 3]? = some (.cells #[.int .i64 0, .int .i64 0, .slice none 0 0, .slice none 0 0] 96 (0, 0)) := by
  rw [← hW0, show w.heap.size + 3 = (((w.alloc (.cells #[Value.string R.src, .string R.dst, .slice la R.list.length lc] 106)).alloc (.cells #[Value.string A.name, .slice fa A.letters.length fc, .slice ga A.small.length gc] 89)).alloc (.cells #[Value.string B.name, .slice fa2 B.letters.length fc2, .slice ga2 B.small.length gc2] 89)).heap.size from by simp]
  exact heap_alloc_new _ _
 clear hW0
 have Hk := Lib.hid (fun wr (hbw : Below W0.heap.size W0 wr) => And.intro (hbr.below hbw (by omega)).c3 (And.intro (hba.below hbw (by omega)).c3 ((hbw.block (w.heap.size + 3) (by omega)).trans hbm)))
 clear hbr hba hbm
 refine (RValid_any R A B _ _ _ _ ((hR.below hw0 (Nat.le_refl _)).more hw0.size) ((hA.below hw0 (Nat.le_refl _)).more hw0.size) ((hB.below hw0 (Nat.le_refl _)).more hw0.size)).mono ?_
 rintro e w1 ⟨rfl, hb1⟩
 have hb1' := hw0.trans (hb1.mono hw0.size)
 obtain ⟨⟨r0, r1, r2⟩, ⟨a0, a1, a2⟩, hm⟩ := Hk.out w1 hb1
 have m0 : w1.cell? ⟨w.heap.size + 3, 0, none⟩ = some (.int .i64 0) := cell_of_row _ _ 0 _ _ _ hm
 have m1 : w1.cell? ⟨w.heap.size + 3, 1, none⟩ = some (.int .i64 0) := cell_of_row _ _ 1 _ _ _ hm
 have m2 : w1.cell? ⟨w.heap.size + 3, 2, none⟩ = some (.slice none 0 0) := cell_of_row _ _ 2 _ _ _ hm
 have m3 : w1.cell? ⟨w.heap.size + 3, 3, none⟩ = some (.slice none 0 0) := cell_of_row _ _ 3 _ _ _ hm
 have f0 : ∀ j, w1.frozen? ⟨w.heap.size + 3, j, none⟩ = false := fun j => by simp [World.frozen?, hm]
 by_cases hv : Valid11 R A B
 ·rw [decide_eq_true hv]
  have hf := hv.1
  have hn1 := hf.2.2.1
  have hn80 := hf.2.2.2.1
  obtain ⟨b, off, rfl, hb, hc⟩ := hl.ruls (by omega)
  have hcr := Lib.hid (fun wr (hbw : Below w.heap.size w wr) i (hi : i < R.list.length) =>
   (And.intro ((hbw.cell (p := ⟨b, off + i * 4, none⟩) hb).trans (hc i hi).1) (And.intro ((hbw.cell (p := ⟨b, off + i * 4 + 1, none⟩) hb).trans (hc i hi).2.1)
    (And.intro ((hbw.cell (p := ⟨b, off + i * 4 + 2, none⟩) hb).trans (hc i hi).2.2.1) ((hbw.cell (p := ⟨b, off + i * 4 + 3, none⟩) hb).trans (hc i hi).2.2.2)))))
  have HV := Lib.hid hv
  have Hf := Lib.hid hf
  clear hc hv hf m0 m1 m2 m3 f0 hm
  have hsz1 := hb1.size
  have b0 : (w1.alloc (Obj.cells #[.int .i64 3] 211)).cell? ⟨w.heap.size + 1, 0, none⟩ = some (.string A.name) := (World.cell?_alloc_lt w1 _ _ (by show w.heap.size + 1 < _; omega)).trans a0
  have b1 : (w1.alloc (Obj.cells #[.int .i64 3] 211)).cell? ⟨w.heap.size + 1, 1, none⟩ = some (.slice fa A.letters.length fc) := (World.cell?_alloc_lt w1 _ _ (by show w.heap.size + 1 < _; omega)).trans a1
  have b2 : (w1.alloc (Obj.cells #[.int .i64 3] 211)).cell? ⟨w.heap.size + 1, 2, none⟩ = some (.slice ga A.small.length gc) := (World.cell?_alloc_lt w1 _ _ (by show w.heap.size + 1 < _; omega)).trans a2
  clear a0 a1 a2
  obtain ⟨W3, hW3⟩ : ∃ W3 : World, W3 = ((w1.alloc (Obj.cells #[.int .i64 3] 211)).alloc (.map #[] 0)).alloc (.cells #[.string A.name, .slice fa A.letters.length fc, .slice ga A.small.length gc, .func (.func 155) #[.pointer (some ⟨w1.heap.size, 0, none⟩)] #[], .slice none 0 0, .slice none 0 0, .map (some (w1.heap.size + 1))] 217) := ⟨_, rfl⟩
  have hb3 : Below w1.heap.size w1 W3 := by rw [hW3]; exact (((Below.refl _ _).alloc (Nat.le_refl _) _).alloc (by simp) _).alloc (by simp; omega) _
  have hsz3 : W3.heap.size = w1.heap.size + 3 := by rw [hW3]; simp
  have hcb : Blk W3 w1.heap.size #[.int .i64 ((3 : Nat) : Int)] 211 := by
   rw [hW3]; exact ((Blk.new w1 _ _).alloc _).alloc _
  have hab : SetIs W3 (w1.heap.size + 1) OkArc (([] : List Arc).map arcV) := by
   rw [hW3]; refine MapIs.alloc ?_ _
   have := SetIs.made (w1.alloc (Obj.cells #[.int .i64 3] 211)) OkArc
   rw [show (w1.alloc (Obj.cells #[.int .i64 3] 211)).heap.size = w1.heap.size + 1 from by simp] at this
   exact this
  have hmb : MkIs W3 (w1.heap.size + 2) A fa ga fc gc w1.heap.size (.slice none 0 0) (.slice none 0 0) (w1.heap.size + 1) := by
   rw [hW3]
   have := Blk.new ((w1.alloc (Obj.cells #[.int .i64 3] 211)).alloc (.map #[] 0)) #[.string A.name, .slice fa A.letters.length fc, .slice ga A.small.length gc, .func (.func 155) #[.pointer (some ⟨w1.heap.size, 0, none⟩)] #[], .slice none 0 0, .slice none 0 0, .map (some (w1.heap.size + 1))] 217
   rw [show ((w1.alloc (Obj.cells #[.int .i64 3] 211)).alloc (.map #[] 0)).heap.size = w1.heap.size + 2 from by simp] at this
   exact this
  have b3 : (((w1.alloc (Obj.cells #[.int .i64 3] 211)).alloc (.map #[] 0)).alloc (.cells #[.string A.name, .slice fa A.letters.length fc, .slice ga A.small.length gc, .func (.func 155) #[.pointer (some ⟨w1.heap.size, 0, none⟩)] #[], .slice none 0 0, .slice none 0 0, .map (some (w1.heap.size + 1))] 217)).cell? ⟨w.heap.size, 2, none⟩ = some (.slice (some ⟨b, off, none⟩) R.list.length lc) := by
   rw [← hW3]; exact (hb3.cell (p := ⟨w.heap.size, 2, none⟩) (by show w.heap.size < _; omega)).trans r2
  have H3 := Lib.hid (And.intro hcb (And.intro hab hmb))
  clear hcb hab hmb r2
  have HW3 := Lib.hid hW3
  clear hW3
  go_wp2_with fail
  rw [← HW3.out]
  clear HW3 b0 b1 b2 b3
  have HR := Lib.hid (show ∃ RL, RL = R.list.map Rul.l from ⟨_, rfl⟩)
  obtain ⟨RL, hRL⟩ := HR.out
  have hRLl : RL.length = R.list.length := by rw [hRL]; simp
  have HRL := Lib.hid hRL
  clear hRL HR
  go_loopw [33] (fun i wr => ∃ (k : Nat) (lv av : Value) (bs : List Nat), k ≤ R.list.length ∧ i = .int .i64 k ∧
   MkSt wr (w1.heap.size + 2) w1.heap.size (w1.heap.size + 1) w1.heap.size A fa ga fc gc lv av (RL.take k) (leadsFrom 3 (RL.take k)) bs ∧
   Blk wr w1.heap.size #[.int .i64 (statesFrom 3 (RL.take k) : Nat)] 211 ∧ SetIs wr (w1.heap.size + 1) OkArc (([] : List Arc).map arcV) ∧ Below w1.heap.size w1 wr) (fun i _ => R.list.length - (intOf i).toNat)
  case atStart =>
   exact ⟨0, _, _, [], Nat.zero_le _, rfl, ⟨H3.out.2.2, World.ownsRow_nil _ _ _ _, World.ownsRow_nil _ _ _ _, rfl, rfl, fun k b x h => by simp at h, fun b h => by simp at h⟩, H3.out.1, H3.out.2.1, hb3⟩
  case round =>
   obtain ⟨k, lv, av, bs, hk, rfl, hst, hcb, hab, hbr⟩ := hrel
   have Hst := Lib.hid hst
   have Hcb := Lib.hid hcb
   have Hab := Lib.hid hab
   clear hst hcb hab
   have hbr0 := hb1.trans (hbr.mono hsz1)
   have hwr := hw0.trans (hbr0.mono hw0.size)
   by_cases hkl : k < R.list.length
   ·obtain ⟨k0, k1, k2, k3⟩ := hcr.out wr hwr k hkl
    obtain ⟨x, hxe⟩ : ∃ x, x = R.list[k] := ⟨_, rfl⟩
    rw [← hxe] at k0 k1 k2 k3
    have Hx := Lib.hid hxe
    clear hxe
    have hvx := hlr _ (List.getElem_mem hkl)
    rw [← Hx.out] at hvx
    obtain ⟨i0, hii, hz0, hz1, hz2⟩ := info_parts info_int
    obtain ⟨m0, hmi, hmz0, hmz1, hmz2⟩ := info_parts info_map
    go_wp2_with fail
    obtain ⟨W4, hW4⟩ : ∃ W4 : World, W4 = wr.alloc (.cells #[.string x.src, .string x.dst, .string x.nxt, .bool x.fin] 103) := ⟨_, rfl⟩
    rw [← hW4]
    have hb4 : Below wr.heap.size wr W4 := by rw [hW4]; exact (Below.refl _ _).alloc (Nat.le_refl _) _
    have hx4 : Blk W4 wr.heap.size #[.string x.src, .string x.dst, .string x.nxt, .bool x.fin] 103 := by rw [hW4]; exact Blk.new _ _ _
    have hc4 : Chg (fun _ => False) wr W4 := Chg.of_below _ hb4
    have hst4 := Hst.out.chg Hcb.out Hab.out hc4 (fun k hk => hk.elim)
    have hbr4 := hbr.trans (hb4.mono hbr.size)
    have hwr4 := hwr.trans (hb4.mono hwr.size)
    refine (letters_set A HV.out.2.1 x.nxt hvx.2.2 (w1.heap.size + 2) fa ga fc gc _ W4 hst4.maker rfl rfl rfl ((hA.below hwr4 (Nat.le_refl _)).more hwr4.size)).mono ?_
    rintro e w5 ⟨b5, ks, rfl, hge5, hset5, hks5, hb5⟩
    have hx5 := hx4.below hb5 hx4.lt
    have hcb4 := Hcb.out.below hb4 Hcb.out.lt
    have hab4 : SetIs W4 (w1.heap.size + 1) OkArc (([] : List Arc).map arcV) := MapIs.below Hab.out hb4 (MapIs.lt Hab.out)
    have hst5 := hst4.chg hcb4 hab4 (Chg.of_below (fun _ => False) hb5) (fun k hk => hk.elim)
    have hcb5 := hcb4.below hb5 hcb4.lt
    have hab5 : SetIs w5 (w1.heap.size + 1) OkArc (([] : List Arc).map arcV) := MapIs.below hab4 hb5 (MapIs.lt hab4)
    have hbr5 := hbr4.trans (hb5.mono hbr4.size)
    have hn5 : b5 ≠ w1.heap.size + 1 := by have := MapIs.lt hab4; omega
    have x2 : w5.cell? ⟨wr.heap.size, 2, none⟩ = some (.string x.nxt) := hx5.cell 2
    have x3 : w5.cell? ⟨wr.heap.size, 3, none⟩ = some (.bool x.fin) := hx5.cell 3
    have hlen5 := MapIs.length (P := Tryz.prog) (k := 3) (e := 4) hset5 Tryz.underlying218
    simp only [List.length_map] at hlen5
    have c3 : w5.cell? ⟨w1.heap.size + 2, 3, none⟩ = some (.func (.func 155) #[.pointer (some ⟨w1.heap.size, 0, none⟩)] #[]) := Blk.cell hst5.maker 3
    have hstl : statesFrom 3 (RL.take k) ≤ 100 := by have := statesFrom_le 3 (RL.take k); rw [List.length_take] at this; omega
    have q1 := next_state w1.heap.size (statesFrom 3 (RL.take k)) (by omega) w5 hcb5
    have Hst5 := Lib.hid (And.intro hst5 (And.intro hcb5 hab5))
    have Hset5 := Lib.hid (And.intro hset5 hks5)
    clear hst5 hcb5 hab5 hset5 hks5 hst4 hcb4 hab4 hx4 hx5 hc4 hW4 k0 k1 k2 k3 hb4
    have hrk : RL.take (k + 1) = RL.take k ++ [x.l] := by rw [HRL.out, rl_take _ _ hkl, ← Hx.out]
    have hlx := HV.out.2.2.2.2.2 _ (List.getElem_mem hkl)
    have hokx := Hf.out.2.2.2.2.1 _ (List.getElem_mem hkl)
    rw [← Hx.out] at hlx hokx
    have hcases : (x.fin = true ∧ bl x.nxt = []) ∨ (x.fin = false ∧ bl x.nxt = [] ∧ ks = []) ∨ (x.fin = false ∧ bl x.nxt ≠ [] ∧ 0 < ks.length) := by
     by_cases hnx : bl x.nxt = []
     ·by_cases hfin : x.fin = true
      ·exact .inl ⟨hfin, hnx⟩
      ·refine .inr (.inl ⟨by simpa using hfin, hnx, ?_⟩)
       refine List.eq_nil_iff_forall_not_mem.2 (fun z hz => ?_)
       have := (Hset5.out.2 z).1 hz
       rw [hnx] at this
       simp [readL] at this
     ·refine .inr (.inr ⟨?_, hnx, ?_⟩)
      ·have := hokx.2.2.2
       cases hf : x.fin with
       | false => rfl
       | true => exact absurd ⟨hf, hnx⟩ this
      ·have h1 := readL_ne hnx (hlx.2.2.elim (fun h => absurd h hnx) (fun h => h.1))
       obtain ⟨z, hz⟩ := List.exists_mem_of_ne_nil _ h1
       exact List.length_pos_of_mem ((Hset5.out.2 z).2 hz)
    have Hrk := Lib.hid hrk
    have Hw5 := Lib.hid (show ∃ w6, w6 = w5 from ⟨_, rfl⟩)
    clear hrk hlx hokx
    rcases hcases with ⟨hfin, hnx⟩ | ⟨hfin, hnx, hks⟩ | ⟨hfin, hnx, hks⟩
    case' inl =>
     have hld : leadsFrom 3 (RL.take (k + 1)) = leadsFrom 3 (RL.take k) ++ [2] := by rw [Hrk.out, leadsFrom_snoc, if_pos (show x.l.nxt = [] from hnx), if_pos (show x.l.fin = true from hfin)]
     have hsf : statesFrom 3 (RL.take (k + 1)) = statesFrom 3 (RL.take k) := by rw [Hrk.out, statesFrom_snoc, if_pos (show x.l.nxt = [] from hnx)]
     have Hld := Lib.hid hld
     have hcbN : Blk w5 w1.heap.size #[.int .i64 (statesFrom 3 (RL.take (k + 1)) : Nat)] 211 := by rw [hsf]; exact Hst5.out.2.1
     have Hcb6 := Lib.hid (And.intro hcbN (Chg.refl (· = w1.heap.size) w5))
     clear hld hsf hcbN hnx q1 c3
     go_upto_region 14 with (fail)
     obtain ⟨w6, hw6⟩ : ∃ w6, w6 = w5 := ⟨_, rfl⟩
     rw [← hw6]
     have Hc6 : Hid (Blk w6 w1.heap.size #[.int .i64 (statesFrom 3 (RL.take (k + 1)) : Nat)] 211 ∧ Chg (· = w1.heap.size) w5 w6) := by rw [hw6]; exact Hcb6
     clear Hcb6 hw6
    case' inr.inl =>
     have hld : leadsFrom 3 (RL.take (k + 1)) = leadsFrom 3 (RL.take k) ++ [1] := by rw [Hrk.out, leadsFrom_snoc, if_pos (show x.l.nxt = [] from hnx), if_neg (show ¬ x.l.fin = true by rw [show x.l.fin = false from hfin]; decide)]
     have hsf : statesFrom 3 (RL.take (k + 1)) = statesFrom 3 (RL.take k) := by rw [Hrk.out, statesFrom_snoc, if_pos (show x.l.nxt = [] from hnx)]
     have Hld := Lib.hid hld
     have hcbN : Blk w5 w1.heap.size #[.int .i64 (statesFrom 3 (RL.take (k + 1)) : Nat)] 211 := by rw [hsf]; exact Hst5.out.2.1
     have Hcb6 := Lib.hid (And.intro hcbN (Chg.refl (· = w1.heap.size) w5))
     subst hks
     clear hld hsf hcbN hnx q1 c3
     go_upto_region 14 with (fail)
     obtain ⟨w6, hw6⟩ : ∃ w6, w6 = w5 := ⟨_, rfl⟩
     rw [← hw6]
     have Hc6 : Hid (Blk w6 w1.heap.size #[.int .i64 (statesFrom 3 (RL.take (k + 1)) : Nat)] 211 ∧ Chg (· = w1.heap.size) w5 w6) := by rw [hw6]; exact Hcb6
     clear Hcb6 hw6
    case' inr.inr =>
     have hld : leadsFrom 3 (RL.take (k + 1)) = leadsFrom 3 (RL.take k) ++ [statesFrom 3 (RL.take k)] := by rw [Hrk.out, leadsFrom_snoc, if_neg (show ¬ x.l.nxt = [] from hnx)]
     have hsf : statesFrom 3 (RL.take (k + 1)) = statesFrom 3 (RL.take k) + 1 := by rw [Hrk.out, statesFrom_snoc, if_neg (show ¬ x.l.nxt = [] from hnx)]
     have Hld := Lib.hid hld
     have Hsf := Lib.hid hsf
     clear hld hsf hnx
     go_upto_region 14 with (go_at_call 155; refine q1.mono ?_; rintro e w6 ⟨rfl, hw6⟩; have Hw6 := Lib.hid hw6; clear hw6)
     have Hc6 : Hid (Blk w6 w1.heap.size #[.int .i64 (statesFrom 3 (RL.take (k + 1)) : Nat)] 211 ∧ Chg (· = w1.heap.size) w5 w6) := by
      refine Lib.hid ?_
      rw [Hw6.out]
      refine ⟨?_, Chg.setCell (S := (· = w1.heap.size)) (p := ⟨w1.heap.size, 0, none⟩) w5 (.inl rfl) _⟩
      rw [Hsf.out]; exact Hst5.out.2.1.set_ 0 _
     clear Hw6 Hsf q1 c3
    all_goals
     have hst6 := Hst5.out.1.chg Hst5.out.2.1 Hst5.out.2.2 Hc6.out.2 (fun k hk => .inl hk)
     have hab6 : SetIs w6 (w1.heap.size + 1) OkArc (([] : List Arc).map arcV) := MapIs.chg Hst5.out.2.2 Hc6.out.2 (fun e => by omega)
     have hset6 : SetIs w6 b5 OkInt _ := MapIs.chg Hset5.out.1 Hc6.out.2 (fun e => Blk.ne_map Hst5.out.2.1 Hset5.out.1 e.symm)
     have hbr6 : Below w1.heap.size w1 w6 := hbr5.trans (Hc6.out.2.below (fun k hk => by omega) hbr5.size)
     obtain ⟨lva, lvc, rfl, _, _⟩ := RowAt.of_own hst6.lv
     obtain ⟨ava, avc, rfl, _, _⟩ := RowAt.of_own hst6.av
     have hl6 : (leadsFrom 3 (RL.take k)).length ≤ 80 := by rw [hst6.len, List.length_take]; omega
     have hbl6 : bs.length ≤ 80 := by rw [hst6.blen, List.length_take]; omega
     have c4 : w6.cell? ⟨w1.heap.size + 1 + 1, 4, none⟩ = some (.slice lva (leadsFrom 3 (RL.take k)).length lvc) := Blk.cell hst6.maker 4
     have hsz6 := hbr6.size
     have H6 := Lib.hid (And.intro hst6 (And.intro hab6 hset6))
     clear hst6 hab6 hset6
     go_wp2_with (at_builtin; refine wpList_append_own _ rfl _ _ 85 rfl w1.heap.size 3 i0 (.int .i64 0) 1 8 Tryz.underlying85 hii hz0 hz1 hz2 rfl (by decide) _ _ _ rfl (H6.out.1.lv.alloc _) ⟨w6.heap.size, 0, none⟩ 1 1 [_] rfl rfl (by exact cell_one_new _ _ _) (by simp [Value.oneCell']) (by unfold maxLen; omega) (by omega) (by simp; omega) ?_)
     intro v7 w7 hown7 hgrow7 _
     obtain ⟨l7a, l7c, rfl, _, _⟩ := RowAt.of_own hown7
     have hm7 := (Blk.alloc H6.out.1.maker _).grown hgrow7 (fun e => Blk.own_ne H6.out.1.maker H6.out.1.lv (by decide) e.symm)
     have hk7 := maker_lead H6.out.1 hown7 hgrow7
     have f7 := hm7.frozen 4
     have hm7b : Blk w7 (w1.heap.size + 1 + 1) _ 217 := hm7
     have d7 := hm7b.cell 4
     clear c4 hm7 hm7b hown7 hgrow7
     have H7 := Lib.hid hk7
     clear hk7
     go_upto_region 15 with (fail)
     obtain ⟨w8, hw8⟩ : ∃ w8 : World, w8 = w7.setCell ⟨w1.heap.size + 1 + 1, 4, none⟩ (.slice l7a ((leadsFrom 3 (RL.take k)).length + 1) l7c) := ⟨_, rfl⟩
     rw [← hw8]
     obtain ⟨hm8, hl8, ha8, hc8⟩ := H7.out
     have Hw8 := Lib.hid hw8
     have H8 := Lib.hid (show MkIs w8 (w1.heap.size + 2) A fa ga fc gc w1.heap.size _ _ (w1.heap.size + 1) ∧ w8.ownsRow w1.heap.size 3 1 _ _ _ ∧ w8.ownsRow w1.heap.size 218 1 _ _ _ ∧ Chg _ w6 w8 from by rw [hw8]; exact ⟨hm8, hl8, ha8, hc8⟩)
     have c5 : w8.cell? ⟨w1.heap.size + 1 + 1, 5, none⟩ = some (.slice ava bs.length avc) := Blk.cell H8.out.1 5
     have hsz8 : w6.heap.size ≤ w8.heap.size := H8.out.2.2.2.size
     clear hm8 hl8 ha8 hc8 hw8 d7 f7
     go_wp2_with (at_builtin; refine wpList_append_own _ rfl _ _ 215 rfl w1.heap.size 218 m0 (.map none) 1 8 Tryz.underlying215 hmi hmz0 hmz1 hmz2 rfl (by decide) _ _ _ rfl (H8.out.2.2.1.alloc _) ⟨w8.heap.size, 0, none⟩ 1 1 [_] rfl rfl (by exact cell_one_new _ _ _) (by simp [Value.oneCell']) (by unfold maxLen; omega) (by omega) (by simp; omega) ?_)
     intro v9 w9 hown9 hgrow9 _
     obtain ⟨l9a, l9c, rfl, _, _⟩ := RowAt.of_own hown9
     have hm9 := (Blk.alloc H8.out.1 _).grown hgrow9 (fun e => Blk.own_ne H8.out.1 H8.out.2.2.1 (by decide) e.symm)
     have hk9 := maker_after H8.out.1 H8.out.2.1 H8.out.2.2.1 H8.out.2.2.2 (.inl rfl) (fun k hk => .inr (.inr (.inl hk))) hown9 hgrow9
     have f9 := hm9.frozen 5
     have hm9b : Blk w9 (w1.heap.size + 1 + 1) _ 217 := hm9
     have d9 := hm9b.cell 5
     have hmore := MkSt.more (x := x.l) H6.out.1 Hc6.out.1 H6.out.2.1 H6.out.2.2 Hset5.out.2 hn5 hk9.1 hk9.2.1 hk9.2.2.1 hk9.2.2.2
     have hbr9 := hbr6.trans (hk9.2.2.2.below (B := w1.heap.size) (fun k hk => by
      rcases hk with e | e | e | e
      ·omega
      ·exact (H6.out.1.lv.lt _ e).1
      ·exact (H6.out.1.av.lt _ e).1
      ·omega) hbr6.size)
     have H9 := Lib.hid (And.intro hmore hbr9)
     clear hk9 hm9 hm9b hown9 hgrow9 hmore hbr9 c5
     go_wp2_with fail
     refine ⟨⟨k + 1, .slice l7a ((leadsFrom 3 (RL.take k)).length + 1) l7c, .slice l9a (bs.length + 1) l9c, bs ++ [b5], by omega, by go_num, (by rw [Hld.out, Hrk.out]; exact H9.out.1.1), H9.out.1.2.1, H9.out.1.2.2, H9.out.2⟩, by simp [intOf]; omega⟩
   ·obtain rfl : k = R.list.length := by omega
    have eRL : RL.take R.list.length = RL := by rw [← hRLl, List.take_length]
    have hst0 := Hst.out
    have hcb0 := Hcb.out
    rw [eRL] at hst0 hcb0
    have Hst0 := Lib.hid hst0
    have Hcb0 := Lib.hid hcb0
    clear hst0 hcb0 Hst Hcb
    obtain ⟨LD, hLD⟩ : ∃ LD, LD = leadsFrom 3 RL := ⟨_, rfl⟩
    obtain ⟨S0, hS0⟩ : ∃ S0, S0 = statesFrom 3 RL := ⟨_, rfl⟩
    have hS0l : S0 ≤ 100 := by rw [hS0]; have := statesFrom_le 3 RL; omega
    have Hst : Hid (MkSt wr (w1.heap.size + 2) w1.heap.size (w1.heap.size + 1) w1.heap.size A fa ga fc gc lv av RL LD bs) := by rw [hLD]; exact Hst0
    have Hcb : Hid (Blk wr w1.heap.size #[.int .i64 (S0 : Nat)] 211) := by rw [hS0]; exact Hcb0
    have HLD := Lib.hid hLD
    have HS0 := Lib.hid hS0
    have Hn9 : Hid (∀ y ∈ RL, y.n ≤ 9) := by
     refine Lib.hid (fun y hy => ?_)
     rw [HRL.out] at hy
     obtain ⟨z, hz, rfl⟩ := List.mem_map.1 hy
     exact (rul_n (Hf.out.2.2.2.2.1 z hz)).1
    have HRLl := Lib.hid hRLl
    clear hLD hS0 Hst0 Hcb0 eRL hRLl
    obtain ⟨⟨r0, r1, r2⟩, ⟨a0, a1, a2⟩, hm⟩ := Hk.out wr hbr0
    clear hm a0 a1 a2 r0 r1
    go_wp2_with fail
    clear r2
    go_loopw [80] (fun i wx => ∃ (k : Nat) (arcs : List Arc), k ≤ R.list.length ∧ i = .int .i64 k ∧
     MkSt wx (w1.heap.size + 2) w1.heap.size (w1.heap.size + 1) w1.heap.size A fa ga fc gc lv av RL LD bs ∧
     Blk wx w1.heap.size #[.int .i64 (endFrom S0 (RL.take k) : Nat)] 211 ∧ SetIs wx (w1.heap.size + 1) OkArc (arcs.map arcV) ∧
     (∀ y, y ∈ arcs ↔ y ∈ arcsFrom A.bls RL LD S0 (RL.take k) (LD.take k)) ∧ Below w1.heap.size w1 wx) (fun i _ => R.list.length - (intOf i).toNat)
    case atStart => exact ⟨0, [], Nat.zero_le _, rfl, Hst.out, Hcb.out, Hab.out, fun y => by simp [arcsFrom], hbr⟩
    case round =>
     clear hbr hbr0 hwr
     obtain ⟨k, arcs, hk, rfl, hst, hcb, hab, hmem, hbr⟩ := hrel
     have Hst := Lib.hid hst
     have Hcb := Lib.hid hcb
     have Hab := Lib.hid hab
     have Hmem := Lib.hid hmem
     clear hst hcb hab hmem
     have hbr0 := hb1.trans (hbr.mono hsz1)
     have hwr := hw0.trans (hbr0.mono hw0.size)
     by_cases hkl : k < R.list.length
     ·obtain ⟨k0, k1, k2, k3⟩ := hcr.out wr hwr k hkl
      obtain ⟨x, hxe⟩ : ∃ x, x = R.list[k] := ⟨_, rfl⟩
      rw [← hxe] at k0 k1 k2 k3
      have Hx := Lib.hid hxe
      clear hxe
      have hvx := hlr _ (List.getElem_mem hkl)
      have hnx9 := rul_n (Hf.out.2.2.2.2.1 _ (List.getElem_mem hkl))
      rw [← Hx.out] at hvx hnx9
      have hLDl : LD.length = RL.length := by rw [HLD.out, leadsFrom_length]
      have hkLD : k < LD.length := by rw [hLDl, HRLl.out]; exact hkl
      obtain ⟨lead, hlead⟩ : ∃ lead, LD[k]? = some lead := ⟨_, List.getElem?_eq_getElem hkLD⟩
      have hll : lead ≤ 10000 := by
       have h1 := List.mem_of_getElem? hlead
       rw [HLD.out] at h1
       have h2 := leadsFrom_mem_le _ _ _ h1
       rw [HRLl.out] at h2
       omega
      have hend : endFrom S0 (RL.take k) ≤ 10000 := by
       have h1 := endFrom_le S0 (RL.take k) (fun y hy => Hn9.out y (List.mem_of_mem_take hy))
       have h2 : (RL.take k).length ≤ 80 := by rw [List.length_take, HRLl.out]; omega
       omega
      have hrk : RL.take (k + 1) = RL.take k ++ [x.l] := by rw [HRL.out, rl_take _ _ hkl, ← Hx.out]
      have hlk : LD.take (k + 1) = LD.take k ++ [lead] := by rw [List.take_add_one, hlead]; rfl
      have hstep := arcsFrom_snoc A.bls RL LD S0 (RL.take k) (LD.take k) x.l lead (by rw [List.length_take, List.length_take, hLDl])
      rw [← hrk, ← hlk] at hstep
      have hends := endFrom_snoc S0 (RL.take k) x.l
      rw [← hrk] at hends
      have Hstep := Lib.hid (And.intro hstep hends)
      have Hlead := Lib.hid hlead
      have hRL80 : RL.length ≤ 80 := by rw [HRLl.out]; omega
      clear hstep hends hrk hlk hlead hLDl hkLD
      go_wp2_with fail
      obtain ⟨W4, hW4⟩ : ∃ W4 : World, W4 = wr.alloc (.cells #[.string x.src, .string x.dst, .string x.nxt, .bool x.fin] 103) := ⟨_, rfl⟩
      rw [← hW4]
      have hb4 : Below wr.heap.size wr W4 := by rw [hW4]; exact (Below.refl _ _).alloc (Nat.le_refl _) _
      have hst4 := Hst.out.chg Hcb.out Hab.out (Chg.of_below (fun _ => False) hb4) (fun k hk => hk.elim)
      have hcb4 := Hcb.out.below hb4 Hcb.out.lt
      have hab4 : SetIs W4 (w1.heap.size + 1) OkArc (arcs.map arcV) := MapIs.below Hab.out hb4 (MapIs.lt Hab.out)
      have hbr4 := hbr.trans (hb4.mono hbr.size)
      have hwr4 := hwr.trans (hb4.mono hwr.size)
      have hsz4 := hbr4.size
      clear hW4 k0 k1 k2 k3
      refine (add_any (w1.heap.size + 2) w1.heap.size (w1.heap.size + 1) w1.heap.size A HV.out.2.1 fa ga fc gc lv av RL hRL80 LD bs (endFrom S0 (RL.take k)) hend arcs k lead Hlead.out hll x hvx hnx9.2 hnx9.1 W4 hst4 hcb4 hab4 ⟨hsz4, Nat.le_refl _, by omega⟩ ((hA.below hwr4 (Nat.le_refl _)).more (Nat.le_trans hw0.size hsz1))).mono ?_
      rintro e w5 ⟨rfl, ⟨arcs', hab5, hmem5⟩, hcb5, hc5⟩
      have hst5 := hst4.chg hcb4 hab4 hc5 (fun k hk => hk.elim .inl (fun e => .inr (.inl e)))
      have hbr5 := hbr4.trans (hc5.below (B := w1.heap.size) (fun k hk => by omega) hbr4.size)
      have H5 := Lib.hid (And.intro hst5 (And.intro hab5 (And.intro hmem5 (And.intro hcb5 hbr5))))
      clear hst4 hcb4 hab4 hst5 hab5 hmem5 hcb5 hc5 hbr5
      go_wp2_with fail
      refine ⟨⟨k + 1, arcs', by omega, by go_num, H5.out.1, (by rw [Hstep.out.2]; exact H5.out.2.2.2.1), H5.out.2.1, (fun y => by rw [Hstep.out.1, List.mem_append, H5.out.2.2.1, Hmem.out]), H5.out.2.2.2.2⟩, by simp [intOf]; omega⟩
     ·obtain rfl : k = R.list.length := by omega
      have eRL : RL.take R.list.length = RL := by rw [← HRLl.out, List.take_length]
      have eLD : LD.take R.list.length = LD := by rw [← HRLl.out, show RL.length = LD.length from by rw [HLD.out, leadsFrom_length], List.take_length]
      have hmem0 := Hmem.out
      rw [eRL, eLD] at hmem0
      have hends : endFrom S0 (RL.take R.list.length) = compileStates RL := by rw [eRL, compileStates, ← HS0.out]
      have hmemC : ∀ y, y ∈ arcs ↔ y ∈ compileArcs A.bls RL := fun y => by rw [hmem0, compileArcs, ← HLD.out, ← HS0.out]
      have hcb0 := Hcb.out
      rw [hends] at hcb0
      have c0 : wr.cell? ⟨w1.heap.size, 0, none⟩ = some (.int .i64 (compileStates RL : Nat)) := hcb0.cell 0
      have HmemC := Lib.hid hmemC
      clear hmem0 hends hmemC eRL eLD hcb0
      go_upto_region 23 with (fail)
      obtain ⟨W5, hW5⟩ : ∃ W5 : World, W5 = (wr.alloc (.cells #[.int .i64 1, .int .i64 2] 3)).alloc (.cells #[.int .i64 (compileStates RL : Nat), .int .i64 0, .slice (some ⟨wr.heap.size, 0, none⟩) 2 2, .slice none 0 0] 96) := ⟨_, rfl⟩
      rw [← hW5]
      have hb5 : Below wr.heap.size wr W5 := by rw [hW5]; exact ((Below.refl _ _).alloc (Nat.le_refl _) _).alloc (by simp) _
      have hsz5 : W5.heap.size = wr.heap.size + 2 := by rw [hW5]; simp
      have hi5 : Blk W5 wr.heap.size #[.int .i64 1, .int .i64 2] 3 := by rw [hW5]; exact (Blk.new _ _ _).alloc _
      have hg5 : Blk W5 (wr.heap.size + 1) #[.int .i64 (compileStates RL : Nat), .int .i64 0, .slice (some ⟨wr.heap.size, 0, none⟩) 2 2, .slice none 0 0] 96 := by
       rw [hW5]; have := Blk.new (wr.alloc (.cells #[.int .i64 1, .int .i64 2] 3)) #[.int .i64 (compileStates RL : Nat), .int .i64 0, .slice (some ⟨wr.heap.size, 0, none⟩) 2 2, .slice none 0 0] 96
       simpa using this
      have hm5 := Blk.below Hst.out.maker hb5 (Blk.lt Hst.out.maker)
      have hs5 : SetIs W5 (w1.heap.size + 1) OkArc (arcs.map arcV) := MapIs.below Hab.out hb5 (MapIs.lt Hab.out)
      have m6 : W5.cell? ⟨w1.heap.size + 1 + 1, 6, none⟩ = some (.map (some (w1.heap.size + 1))) := Blk.cell hm5 6
      obtain ⟨o, hrng, hr5⟩ := MapIs.range (P := Tryz.prog) hs5 Tryz.underlying214
      have hpairs : (arcs.map arcV).map (fun v => (v, Value.bool true)) = arcs.map arcP := by rw [List.map_map]; rfl
      rw [hpairs] at hr5
      have hnd := arcs_nodup hs5
      have Hnd := Lib.hid hnd
      have hbr5 := hbr.trans (hb5.mono hbr.size)
      have Hi5 := Lib.hid (hi5.alloc o)
      have Hg5 := Lib.hid (hg5.alloc o)
      have Hr5 := Lib.hid hr5
      have hsz51 := hbr.size
      have hbr6 : Below w1.heap.size w1 (W5.alloc o) := hbr5.alloc hbr5.size _
      clear hW5 hi5 hg5 hs5 hm5 hr5 hnd hpairs c0 hsz5
      go_wp2_with fail
      obtain ⟨wL, rfl⟩ : ∃ wL : World, wL = wr := ⟨_, rfl⟩
      obtain ⟨j0, hj, hj0, hj1, hj2⟩ := info_parts info_arc
      have hal : arcs.length ≤ 9000 := by
       have h0 := length_le_of_nodup (l := arcs) (m := arcsFrom A.bls RL LD S0 RL LD) Hnd.out (fun y hy => by
        have := (HmemC.out y).1 hy
        rw [compileArcs, ← HLD.out, ← HS0.out] at this; exact this)
       have h1 := arcsFrom_length A.bls RL LD S0 RL LD Hn9.out
       have h4 : RL.length * (RL.length + 10) ≤ 80 * 90 := Nat.mul_le_mul (by rw [HRLl.out]; omega) (by rw [HRLl.out]; omega)
       omega
      clear hrng m6
      go_loopw [] (fun wx => ∃ (ys zs : List Arc) (av : Value), RangeIs wx (w1.heap.size + 1) W5.heap.size OkArc (arcs.map arcP) (zs.map arcP) ∧ (ys ++ zs).Perm arcs ∧ wx.ownsRow w1.heap.size 177 4 av ys.length (flat ys) ∧
       Blk wx (wL.heap.size + 1) #[.int .i64 (compileStates RL : Nat), .int .i64 0, .slice (some ⟨wL.heap.size, 0, none⟩) 2 2, av] 96 ∧ Blk wx wL.heap.size #[.int .i64 1, .int .i64 2] 3 ∧ Below w1.heap.size w1 wx) (fun wx => leftW wx (w1.heap.size + 1) W5.heap.size)
      case atStart => exact ⟨[], arcs, _, Hr5.out, List.Perm.refl _, World.ownsRow_nil _ _ _ _, Hg5.out, Hi5.out, hbr6⟩
      case round =>
       obtain ⟨ys, zs, av, hrg, hperm, hown, hgb, hib, hbx⟩ := hrel
       have hlen : ys.length ≤ arcs.length := by have := hperm.length_eq; rw [List.length_append] at this; omega
       have Hrg := Lib.hid hrg
       have Hperm := Lib.hid hperm
       have Hb := Lib.hid (And.intro hown (And.intro hgb hib))
       have hszx := hbx.size
       clear hrg hperm hown hgb hib
       obtain ⟨ava, avc, rfl, _, _⟩ := RowAt.of_own Hb.out.1
       rcases RangeIs.next (P := Tryz.prog) Hrg.out 0 with ⟨hl, hrun⟩ | ⟨A', p, B', w', hl, hrun, hrg', hg', hs', hent⟩
       ·have hnx : ∀ ty, (Instr.next (.pointer (some ⟨W5.heap.size, 0, none⟩)) false ty).run Tryz.prog wr = .ok (.tuple #[.bool false]) wr := fun _ => hrun
        have hz : zs = [] := List.map_eq_nil_iff.1 hl
        have g3 : wr.cell? ⟨wL.heap.size + 1, 3, none⟩ = some (.slice ava ys.length avc) := Hb.out.2.1.cell 3
        have Hz := Lib.hid hz
        clear hl hz hrun
        have hpy : ys.Perm arcs := by have := Hperm.out; rw [Hz.out, List.append_nil] at this; exact this
        have hne : ys.length ≠ 0 := fun e => by
         have h0 : arcs = [] := List.Perm.nil_eq (by rw [List.length_eq_zero_iff.1 e] at hpy; exact hpy) |>.symm
         refine compileArcs_ne (L := A.bls) (l := RL) (fun e => ?_) (List.eq_nil_iff_forall_not_mem.2 (fun y hy => ?_))
         ·have := HRLl.out; rw [e] at this; simp at this; omega
         ·have := (HmemC.out y).2 hy; rw [h0] at this; simp at this
        obtain ⟨ga', rfl⟩ : ∃ g, ava = some ⟨g, 0, none⟩ := by
         have h1 := Hb.out.1
         obtain ⟨m, hm⟩ : ∃ m, ys.length = m + 1 := ⟨ys.length - 1, by omega⟩
         rw [hm] at h1
         obtain ⟨g, cap, e⟩ := own_succ h1
         exact ⟨g, by injection e⟩
        have Hpy := Lib.hid hpy
        clear hpy
        go_wp2_with fail
        refine (hsort ys ga' avc w1.heap.size wr (by omega) Hb.out.1).mono ?_
        rintro e w6 ⟨rfl, S, hSl, hSm, hSi, hSo, hc6⟩
        have hlto := Hb.out.1.lt ga' rfl
        have hb6 : Below w1.heap.size w1 w6 := hbx.trans (hc6.below (fun k e => by rw [e]; exact hlto.1) hszx)
        have hg6 := Hb.out.2.1.chg hc6 (fun e => Hb.out.2.1.own_ne Hb.out.1 (by decide) (by rw [← e]; rfl))
        have hi6 := Hb.out.2.2.chg hc6 (fun e => Hb.out.2.2.own_ne Hb.out.1 (by decide) (by rw [← e]; rfl))
        have hb60 := hb1.trans (hb6.mono hsz1)
        have hw6 := hw0.trans (hb60.mono hw0.size)
        obtain ⟨_, _, hm⟩ := Hk.out w6 hb60
        have hmB : Blk w6 (w.heap.size + 3) #[.int .i64 0, .int .i64 0, .slice none 0 0, .slice none 0 0] 96 := hm
        have m0 : w6.cell? ⟨w.heap.size + 3, 0, none⟩ = some (.int .i64 0) := hmB.cell 0
        have m1 : w6.cell? ⟨w.heap.size + 3, 1, none⟩ = some (.int .i64 0) := hmB.cell 1
        have m2 : w6.cell? ⟨w.heap.size + 3, 2, none⟩ = some (.slice none 0 0) := hmB.cell 2
        have m3 : w6.cell? ⟨w.heap.size + 3, 3, none⟩ = some (.slice none 0 0) := hmB.cell 3
        have f0 : ∀ j, w6.frozen? ⟨w.heap.size + 3, j, none⟩ = false := fun j => hmB.frozen j
        have g0 : w6.cell? ⟨wL.heap.size + 1, 0, none⟩ = some (.int .i64 (compileStates RL : Nat)) := hg6.cell 0
        have g1 : w6.cell? ⟨wL.heap.size + 1, 1, none⟩ = some (.int .i64 0) := hg6.cell 1
        have g2 : w6.cell? ⟨wL.heap.size + 1, 2, none⟩ = some (.slice (some ⟨wL.heap.size, 0, none⟩) 2 2) := hg6.cell 2
        have g3' : w6.cell? ⟨wL.heap.size + 1, 3, none⟩ = some (.slice (some ⟨ga', 0, none⟩) ys.length avc) := hg6.cell 3
        have hlo : ga' ≠ w.heap.size + 3 ∧ wL.heap.size ≠ w.heap.size + 3 := by omega
        have Hlo := Lib.hid (And.intro hlo (And.intro (own_len hSo) hSl))
        have hmemF : ∀ y, y ∈ S ↔ y ∈ compileArcs A.bls RL := fun y => by rw [hSm, Hpy.out.mem_iff, HmemC.out]
        have hinc := hSi (Hpy.out.nodup_iff.2 Hnd.out)
        obtain ⟨_, _, e, _, hrS⟩ := RowAt.of_own hSo
        injection e with e1 _ e3
        subst e1 e3
        have hrF : RowAt w6 w6.heap.size (some ⟨wL.heap.size, 0, none⟩) (nums [1, 2]) := fun _ => by
         refine ⟨_, 0, rfl, hi6.lt, fun i x hx => ?_⟩
         rw [Nat.zero_add, hi6.cell i]
         simpa [nums] using hx
        have HF := Lib.hid (And.intro hinc (And.intro hmemF (And.intro hrS hrF)))
        clear hm hmB hlo hmemF hinc hrS hrF hSl hSm hSi hSo hg6 hi6 g3 hc6
        go_wp2
        refine bodyPost_ret (v := .tuple #[.agg #[.int .i64 (compileStates RL : Nat), .int .i64 0, .slice (some ⟨wL.heap.size, 0, none⟩) 2 2, .slice (some ⟨ga', 0, none⟩) ys.length avc], .int .i64 0]) (by simp [results, Tryz.results98, go_sem, m0, m1, m2, m3]) rfl ?_
        have hbs := (((hw6.setCell (p := ⟨w.heap.size + 3, 0, none⟩) (by simp) (.int .i64 (compileStates RL : Nat))).setCell (p := ⟨w.heap.size + 3, 1, none⟩) (by simp) (.int .i64 0)).setCell (p := ⟨w.heap.size + 3, 2, none⟩) (by simp) (.slice (some ⟨wL.heap.size, 0, none⟩) 2 2)).setCell (p := ⟨w.heap.size + 3, 3, none⟩) (by simp) (.slice (some ⟨ga', 0, none⟩) ys.length avc)
        have hS := HF.out.2.2.1
        have hneS : ∀ bb o, some (⟨ga', 0, none⟩ : Addr) = some ⟨bb, o, none⟩ → bb ≠ w.heap.size + 3 := fun bb o e => by
         have e2 : ga' = bb := by injection e with e; injection e
         rw [← e2]; exact Hlo.out.1.1
        have hneF : ∀ bb o, some (⟨wL.heap.size, 0, none⟩ : Addr) = some ⟨bb, o, none⟩ → bb ≠ w.heap.size + 3 := fun bb o e => by
         have e2 : wL.heap.size = bb := by injection e with e; injection e
         rw [← e2]; exact Hlo.out.1.2
        have hrow1 := (((hS.set (p := ⟨w.heap.size + 3, 0, none⟩) hneS (.int .i64 (compileStates RL : Nat))).set (p := ⟨w.heap.size + 3, 1, none⟩) hneS (.int .i64 0)).set (p := ⟨w.heap.size + 3, 2, none⟩) hneS (.slice (some ⟨wL.heap.size, 0, none⟩) 2 2)).set (p := ⟨w.heap.size + 3, 3, none⟩) hneS (.slice (some ⟨ga', 0, none⟩) ys.length avc)
        have hrow2 := (((HF.out.2.2.2.set (p := ⟨w.heap.size + 3, 0, none⟩) hneF (.int .i64 (compileStates RL : Nat))).set (p := ⟨w.heap.size + 3, 1, none⟩) hneF (.int .i64 0)).set (p := ⟨w.heap.size + 3, 2, none⟩) hneF (.slice (some ⟨wL.heap.size, 0, none⟩) 2 2)).set (p := ⟨w.heap.size + 3, 3, none⟩) hneF (.slice (some ⟨ga', 0, none⟩) ys.length avc)
        refine ⟨_, ⟨(compileStates RL : Nat), 0, [1, 2], S⟩, 0, rfl, ⟨_, 2, some ⟨ga', 0, none⟩, avc, (by show _ = Value.agg #[_, _, _, .slice _ S.length _]; rw [Hlo.out.2.2]; rfl), by unfold maxLen; simp, (by show S.length ≤ _; rw [Hlo.out.2.2]; exact Hlo.out.2.1), hrow2.more (by simp), hrow1.more (by simp)⟩, hbs, fun h => absurd HV.out h, fun _ => ⟨rfl, ⟨?_, rfl, rfl, HF.out.1, ?_⟩⟩⟩
        ·rw [HRL.out]
        ·intro y; rw [← HRL.out]; exact HF.out.2.1 y
       ·obtain ⟨za, z, zb, hzs, rfl, rfl, rfl⟩ := split_arcs hl
        have hnx : ∀ ty, (Instr.next (.pointer (some ⟨W5.heap.size, 0, none⟩)) false ty).run Tryz.prog wr = .ok (.tuple #[.bool true, .agg #[.int .i64 z.frm, .int .i64 z.inp, .int .i64 z.out, .int .i64 z.to], .bool true]) w' := fun _ => hrun
        have hent' : (Instr.entry (.pointer (some ⟨W5.heap.size, 0, none⟩))).run Tryz.prog w' = .ok (.tuple #[.agg #[.int .i64 z.frm, .int .i64 z.inp, .int .i64 z.out, .int .i64 z.to], .bool true]) w' := hent
        have Hzs := Lib.hid hzs
        have Hrg' := Lib.hid hrg'
        have Hg' := Lib.hid hg'
        have Hs' := Lib.hid hs'
        clear hl hent hzs hrg' hg' hrun hs'
        go_upto_region 26 with (fail)
        obtain ⟨W8, hW8⟩ : ∃ W8 : World, W8 = w'.alloc (.cells #[.int .i64 z.frm, .int .i64 z.inp, .int .i64 z.out, .int .i64 z.to] 177) := ⟨_, rfl⟩
        rw [← hW8]
        have hz8 : Blk W8 w'.heap.size #[.int .i64 z.frm, .int .i64 z.inp, .int .i64 z.out, .int .i64 z.to] 177 := by rw [hW8]; exact Blk.new _ _ _
        have hown' := Hb.out.1.kept Hg'.out (.inr (fun e => RangeIs.ne_own Hrg.out Hb.out.1 e))
        have hgb' := Hb.out.2.1.grown Hg'.out (fun e => RangeIs.ne_blk Hrg.out Hb.out.2.1 (by injection e))
        have hib' := Hb.out.2.2.grown Hg'.out (fun e => RangeIs.ne_blk Hrg.out Hb.out.2.2 (by injection e))
        have hb8 : Below w'.heap.size w' W8 := by rw [hW8]; exact (Below.refl _ _).alloc (Nat.le_refl _) _
        have hown8 : W8.ownsRow w1.heap.size 177 4 (.slice ava ys.length avc) ys.length (flat ys) := own_below hown' hb8
        have hgb8 := hgb'.below hb8 hgb'.lt
        have hib8 := hib'.below hb8 hib'.lt
        have hrg8 := RangeIs.below Hrg'.out hb8 (MapIs.lt (RangeIs.isMap Hrg'.out)) (RangeIs.lt Hrg'.out)
        have hbx8 : Below w1.heap.size w1 W8 := (hbx.grown Hg'.out hszx (fun j hj => by cases hj; exact hbr5.size)).trans (hb8.mono (by have := Hs'.out; omega))
        have z0 : W8.cell? ⟨w'.heap.size, 0, none⟩ = some (.int .i64 z.frm) := hz8.cell 0
        have z1 : W8.cell? ⟨w'.heap.size, 1, none⟩ = some (.int .i64 z.inp) := hz8.cell 1
        have z2 : W8.cell? ⟨w'.heap.size, 2, none⟩ = some (.int .i64 z.out) := hz8.cell 2
        have z3 : W8.cell? ⟨w'.heap.size, 3, none⟩ = some (.int .i64 z.to) := hz8.cell 3
        have g3 : W8.cell? ⟨wL.heap.size + 1, 3, none⟩ = some (.slice ava ys.length avc) := hgb8.cell 3
        have hsz8 := hbx8.size
        have H8 := Lib.hid (And.intro hown8 (And.intro hgb8 (And.intro hib8 hrg8)))
        clear hW8 hz8 hown' hgb' hib' hb8 hown8 hgb8 hib8 hrg8 hnx hent'
        go_wp2_with (at_builtin; refine wpList_append_own _ rfl _ _ 94 rfl w1.heap.size 177 j0 _ 4 32 Tryz.underlying94 hj hj0 hj1 hj2 rfl (by decide) _ _ _ rfl (H8.out.1.alloc _) ⟨W8.heap.size, 0, none⟩ 1 1 z.cells rfl rfl (by exact cells_new W8 z.cells 177) (by simp [Arc.cells, Value.oneCell']) (by unfold maxLen; omega) (by omega) (by simp; omega) ?_)
        intro v9 w9 hown9 hgrow9 _
        obtain ⟨a9, c9, rfl, _, _⟩ := RowAt.of_own hown9
        have hgb9 := (H8.out.2.1.alloc _).grown hgrow9 (fun e => H8.out.2.1.own_ne H8.out.1 (by decide) e.symm)
        have hib9 := (H8.out.2.2.1.alloc _).grown hgrow9 (fun e => H8.out.2.2.1.own_ne H8.out.1 (by decide) e.symm)
        have hrg8 := RangeIs.below H8.out.2.2.2 ((Below.refl _ W8).alloc (Nat.le_refl _) (.cells z.cells.toArray 177)) (MapIs.lt (RangeIs.isMap H8.out.2.2.2)) (RangeIs.lt H8.out.2.2.2)
        have hrg9 := RangeIs.grown hrg8 hgrow9 (fun e => own_ne_map H8.out.1 (RangeIs.isMap H8.out.2.2.2) e.symm) (fun e => RangeIs.ne_own H8.out.2.2.2 H8.out.1 e.symm)
        have hbx9 : Below w1.heap.size w1 w9 := (hbx8.alloc hsz8 _).grown hgrow9 (by simp; omega) (fun j hj => (H8.out.1.lt j hj).1)
        have f9 := hgb9.frozen 3
        have d9 := hgb9.cell 3
        have hgbN := hgb9.set_ 3 (.slice a9 (ys.length + 1) c9)
        have hibN := hib9.far (p := ⟨wL.heap.size + 1, 3, none⟩) (by show wL.heap.size ≠ wL.heap.size + 1; omega) (.slice a9 (ys.length + 1) c9)
        have hrgN := RangeIs.setCell hrg9 (p := ⟨wL.heap.size + 1, 3, none⟩) (fun e => Blk.ne_map hgb9 (RangeIs.isMap hrg9) e) (fun e => RangeIs.ne_blk hrg9 hgb9 e) (.slice a9 (ys.length + 1) c9)
        have hownN := own_setCell hown9 (p := ⟨wL.heap.size + 1, 3, none⟩) (fun e => hgb9.own_ne hown9 (by decide) e) (.slice a9 (ys.length + 1) c9)
        have hbxN := hbx9.setCell (p := ⟨wL.heap.size + 1, 3, none⟩) (by show w1.heap.size ≤ wL.heap.size + 1; omega) (.slice a9 (ys.length + 1) c9)
        have hpermN : (ys ++ [z] ++ (za ++ zb)).Perm arcs := by
         refine List.Perm.trans ?_ Hperm.out
         rw [Hzs.out, show ys ++ [z] ++ (za ++ zb) = ys ++ (z :: (za ++ zb)) from by simp]
         exact (List.perm_middle (l₁ := za) (a := z) (l₂ := zb)).symm.append_left ys
        have HN := Lib.hid (And.intro hgbN (And.intro hibN (And.intro hrgN (And.intro hownN (And.intro hbxN hpermN)))))
        clear hgbN hibN hrgN hownN hbxN hpermN hgb9 hib9 hrg8 hrg9 hbx9 hown9 hgrow9 g3 z0 z1 z2 z3
        go_wp2_with fail
        have hrgF := HN.out.2.2.1
        rw [← List.map_append] at hrgF
        refine ⟨⟨ys ++ [z], za ++ zb, .slice a9 (ys.length + 1) c9, hrgF, HN.out.2.2.2.2.2, ?_, HN.out.1, HN.out.2.1, HN.out.2.2.2.2.1⟩, ?_⟩
        ·rw [flat_append, List.length_append]
         have := HN.out.2.2.2.1
         simpa [flat] using this
        ·rw [RangeIs.leftW hrgF, RangeIs.leftW Hrg.out, Hzs.out]
         simp
 ·rw [decide_eq_false hv]
  clear a0 a1 a2 r0 r1 r2
  have hbs := (((hb1'.setCell (p := ⟨w.heap.size + 3, 0, none⟩) (by simp) (.int .i64 0)).setCell (p := ⟨w.heap.size + 3, 1, none⟩) (by simp) (.int .i64 0)).setCell (p := ⟨w.heap.size + 3, 2, none⟩) (by simp) (.slice none 0 0)).setCell (p := ⟨w.heap.size + 3, 3, none⟩) (by simp) (.slice none 0 0)
  clear hmm
  go_wp2
  refine bodyPost_ret (v := .tuple #[.agg #[.int .i64 0, .int .i64 0, .slice none 0 0, .slice none 0 0], .int .i64 1]) (by simp [results, Tryz.results98, go_sem, m0, m1, m2, m3]) rfl ?_
  refine ⟨_, ⟨0, 0, [], []⟩, 1, rfl, ⟨none, 0, none, 0, rfl, by simp, by simp, fun h => by simp [nums] at h, fun h => by simp [flat] at h⟩, hbs, fun _ => ⟨rfl, rfl⟩, fun h => absurd h hv⟩
end Go.Proofs.YthachfkcgdfdfaaGreatDoor
