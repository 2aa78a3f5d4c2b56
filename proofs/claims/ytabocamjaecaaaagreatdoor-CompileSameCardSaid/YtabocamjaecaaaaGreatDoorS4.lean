/- Walk: rules.Writings. -/
import Derived.Test.YtabocamjaecaaaaGreatDoorSE
import Derived.Deep.CutBlock
import Derived.Deep.RegionHeld3
import Derived.Test.YtabocamjaecaaaaGreatDoorGN
namespace Go.Proofs.YtabocamjaecaaaaGreatDoor
open Go.RowKit Classical

def WritPost (R : Ruls) (A B : Alph) (x : ByteArray) (w : World) (e : Ending) (w' : World) : Prop :=
 ∃ (v : Value) (ts : List ByteArray) (err : Int), e = .returned (.tuple #[v, .int .i64 err]) ∧ (∃ a cp, v = .slice a ts.length cp ∧ RowAt w' w'.heap.size a (strs ts)) ∧ Below w.heap.size w w' ∧ WritOf R A B (bl x) ts err
theorem flatO_get : ∀ {l : List Rul} {F : List (Value × Value)} {k : Nat} {x : Rul} {p : Value × Value}, l[k]? = some x → F[k]? = some p → ∀ j v, (oneO x p)[j]? = some v → (flatO l F)[k * 6 + j]? = some v
 | [], _, _, _, _, h, _, _, _, _ => by simp at h
 | _ :: _, [], _, _, _, _, h, _, _, _ => by simp at h
 | y :: l, q :: F, 0, x, p, h, h', j, v, hv => by
  obtain rfl : y = x := by simpa using h
  obtain rfl : q = p := by simpa using h'
  have e : flatO (y :: l) (q :: F) = oneO y q ++ flatO l F := by simp [flatO]
  rw [e, Nat.zero_mul, Nat.zero_add, List.getElem?_append_left (List.getElem?_eq_some_iff.1 hv).1]
  exact hv
 | y :: l, q :: F, k + 1, x, p, h, h', j, v, hv => by
  have := flatO_get (l := l) (F := F) (k := k) (by simpa using h) (by simpa using h') j v hv
  have e : flatO (y :: l) (q :: F) = oneO y q ++ flatO l F := by simp [flatO]
  have h6 : (oneO y q).length = 6 := rfl
  rw [e, List.getElem?_append_right (by omega), h6, show (k + 1) * 6 + j - 6 = k * 6 + j by omega]
  exact this
def strV (l : List ByteArray) : List (Value × Value) := l.map (fun s => (.string s, .bool true))
theorem strV_set (l : List ByteArray) : (l.map Value.string).map (fun v => (v, Value.bool true)) = strV l := by unfold strV; rw [List.map_map]; rfl
theorem split_str {left : List ByteArray} {A B : List (Value × Value)} {pr : Value × Value} (h : strV left = A ++ pr :: B) : ∃ la s lb, left = la ++ s :: lb ∧ A = strV la ∧ pr = (.string s, .bool true) ∧ B = strV lb := by
 obtain ⟨l1, l2, rfl, h1, h2⟩ := List.map_eq_append_iff.1 h
 obtain ⟨p, l3, rfl, h3, h4⟩ := List.map_eq_cons_iff.1 h2
 exact ⟨l1, p, l3, rfl, h1.symm, h3.symm, h4.symm⟩
theorem blk_ne_map {w : World} {b b' : Nat} {cs : Array Value} {t : TypeId} {Ok : Value → Prop} {l : List (Value × Value)} (h : Blk w b cs t) (h' : MapIs w b' Ok l) : b ≠ b' := fun e => by
 obtain ⟨es, c, h1, _⟩ := h'
 unfold Blk at h
 rw [e, h1] at h; cases h
theorem range_ne {w : World} {b r b' : Nat} {Ok Ok' : Value → Prop} {l left l' : List (Value × Value)} (h : RangeIs w b r Ok l left) (h' : MapIs w b' Ok' l') : b' ≠ r := fun e => by
 obtain ⟨_, _, _, _, _, _, _, _, _, h1, _⟩ := h
 obtain ⟨es, c, h2, _⟩ := h'
 rw [e, h1] at h2; cases h2
theorem range_blk {w : World} {b r b' : Nat} {Ok : Value → Prop} {l left : List (Value × Value)} {cs : Array Value} {t : TypeId} (h : RangeIs w b r Ok l left) (h' : Blk w b' cs t) : b' ≠ r := fun e => by
 obtain ⟨_, _, _, _, _, _, _, _, _, h1, _⟩ := h
 unfold Blk at h'
 rw [e, h1] at h'; cases h'
theorem stands_iff {L : List (List UInt8)} {r : Rul} {rest : List Int} : StandsI (rdL L (bl r.src)) (rdL L (bl r.nxt)) r.fin rest ↔ Stands L r.l rest := Iff.rfl

set_option maxRecDepth 100000 in
set_option maxHeartbeats 8000000 in
theorem Writings_any (R : Ruls) (A B : Alph) (x : ByteArray) (hx : x.size ≤ maxLen) (v va vb : Value) (w : World) (h : RulsAt w w.heap.size v R) (ha : AlphAt w w.heap.size va A) (hb : AlphAt w w.heap.size vb B) :
  Calls Tryz.prog 12 #[v, va, vb, .string x] w (WritPost R A B x w) := by
 have hR := h
 have hA := ha
 have hB := hb
 obtain ⟨la, lc, rfl, -, -, -, -, -⟩ := h
 obtain ⟨fa, fc, ga, gc, rfl, -, -, -, -, -, -⟩ := ha
 obtain ⟨fa2, fc2, ga2, gc2, rfl, -, -, -, -, -, -⟩ := hb
 obtain ⟨W0, hW0⟩ : ∃ W0 : World, W0 = ((w.alloc (.cells #[.string R.src, .string R.dst, .slice la R.list.length lc] 24)).alloc (.cells #[.string A.name, .slice fa A.letters.length fc, .slice ga A.small.length gc] 28)).alloc (.cells #[.string B.name, .slice fa2 B.letters.length fc2, .slice ga2 B.small.length gc2] 28) := ⟨_, rfl⟩
 have hw0 : Below w.heap.size w W0 := by rw [hW0]; exact (((Below.refl _ _).alloc (Nat.le_refl _) _).alloc (by simp) _).alloc (by simp; omega) _
 have kr : Blk W0 w.heap.size #[.string R.src, .string R.dst, .slice la R.list.length lc] 24 := by rw [hW0]; exact ((Blk.new _ _ _).alloc _).alloc _
 have ka : Blk W0 (w.heap.size + 1) #[.string A.name, .slice fa A.letters.length fc, .slice ga A.small.length gc] 28 := by
  rw [hW0]; have := (Blk.new (w.alloc (.cells #[.string R.src, .string R.dst, .slice la R.list.length lc] 24)) #[.string A.name, .slice fa A.letters.length fc, .slice ga A.small.length gc] 28).alloc (.cells #[.string B.name, .slice fa2 B.letters.length fc2, .slice ga2 B.small.length gc2] 28); simpa using this
 have kb : Blk W0 (w.heap.size + 2) #[.string B.name, .slice fa2 B.letters.length fc2, .slice ga2 B.small.length gc2] 28 := by
  rw [hW0]; have := Blk.new ((w.alloc (.cells #[.string R.src, .string R.dst, .slice la R.list.length lc] 24)).alloc (.cells #[.string A.name, .slice fa A.letters.length fc, .slice ga A.small.length gc] 28)) #[.string B.name, .slice fa2 B.letters.length fc2, .slice ga2 B.small.length gc2] 28; simpa using this
 have Hbox := Lib.hid (fun wr (hbw : Below W0.heap.size W0 wr) => And.intro (kr.below hbw kr.lt) (And.intro (ka.below hbw ka.lt) (kb.below hbw kb.lt)))
 have Harg := Lib.hid (fun wr (hbw : Below W0.heap.size W0 wr) => have hw := hw0.trans (hbw.mono hw0.size); And.intro ((hR.below hw (Nat.le_refl _)).more hw.size) (And.intro ((hA.below hw (Nat.le_refl _)).more hw.size) ((hB.below hw (Nat.le_refl _)).more hw.size)))
 have HW0 := Lib.hid (And.intro hW0 hw0)
 have r0 : W0.cell? ⟨w.heap.size, 0, none⟩ = some (.string R.src) := kr.cell 0
 have r1 : W0.cell? ⟨w.heap.size, 1, none⟩ = some (.string R.dst) := kr.cell 1
 have r2 : W0.cell? ⟨w.heap.size, 2, none⟩ = some (.slice la R.list.length lc) := kr.cell 2
 have a0 : W0.cell? ⟨w.heap.size + 1, 0, none⟩ = some (.string A.name) := ka.cell 0
 have a1 : W0.cell? ⟨w.heap.size + 1, 1, none⟩ = some (.slice fa A.letters.length fc) := ka.cell 1
 have a2 : W0.cell? ⟨w.heap.size + 1, 2, none⟩ = some (.slice ga A.small.length gc) := ka.cell 2
 have b0 : W0.cell? ⟨w.heap.size + 2, 0, none⟩ = some (.string B.name) := kb.cell 0
 have b1 : W0.cell? ⟨w.heap.size + 2, 1, none⟩ = some (.slice fa2 B.letters.length fc2) := kb.cell 1
 have b2 : W0.cell? ⟨w.heap.size + 2, 2, none⟩ = some (.slice ga2 B.small.length gc2) := kb.cell 2
 obtain ⟨hR0, hA0, hB0⟩ := Harg.out W0 (Below.refl _ _)
 have HQ := Lib.hid (open_any R A B _ _ _ W0 hR0 hA0 hB0)
 clear hW0 hw0 kr ka kb hR hA hB hR0 hA0 hB0
 go_enter Tryz.func12, Tryz.ntmps12
 go_upto_region 1 with (fail)
 rw [← HW0.out.1]
 go_wp2_with fail
 refine HQ.out.mono ?_
 rintro e w1 ⟨v1, rfl, hb1, hF1⟩
 have H1 := Lib.hid (And.intro hb1 hF1)
 clear hb1 hF1 r0 r1 r2 a0 a1 a2 b0 b1 b2 HQ
 have hbF := HW0.out.2.trans (H1.out.1.mono HW0.out.2.size)
 by_cases hv : ¬ Valid11 R A B
 ·rw [decide_eq_false hv]
  have Hv := Lib.hid hv
  have HbF := Lib.hid hbF
  clear hv hbF
  go_wp2_with fail
  go_ret2
  exact ⟨_, [], 1, rfl, ⟨none, 0, rfl, fun h => by simp [strs] at h⟩, HbF.out, .inl ⟨fun h => Hv.out h.1, rfl, rfl⟩⟩
 rw [decide_eq_true (Classical.not_not.1 hv)]
 have Hv := Lib.hid (Classical.not_not.1 hv)
 obtain ⟨F, hFl, hrow, hlet⟩ := H1.out.2 (Classical.not_not.1 hv)
 clear hv hbF
 have kA := (Hbox.out w1 H1.out.1).2.1
 have a0 : w1.cell? ⟨w.heap.size + 1, 0, none⟩ = some (.string A.name) := kA.cell 0
 have a1 : w1.cell? ⟨w.heap.size + 1, 1, none⟩ = some (.slice fa A.letters.length fc) := kA.cell 1
 have a2 : w1.cell? ⟨w.heap.size + 1, 2, none⟩ = some (.slice ga A.small.length gc) := kA.cell 2
 have HQ := Lib.hid (Read_any A _ x hx w1 (Harg.out w1 H1.out.1).2.1)
 have hrd : readA A x = readL A.bls (bl x) := by unfold readA; rw [if_pos Hv.out.2.1]
 rw [hrd] at HQ
 have HF := Lib.hid (And.intro hFl (And.intro hrow hlet))
 clear kA hrd hFl hrow hlet
 go_wp2_with fail
 refine HQ.out.mono ?_
 rintro e w2 ⟨v2, rfl, hrow2, hb2⟩
 clear a0 a1 a2 HQ
 have hb02 := H1.out.1.trans (hb2.mono H1.out.1.size)
 have hbF := HW0.out.2.trans (hb02.mono HW0.out.2.size)
 have H2 := Lib.hid (And.intro hrow2 (And.intro hb2 (And.intro hb02 hbF)))
 clear hrow2 hb2 hb02 hbF
 obtain ⟨er, her⟩ : ∃ er, (readL A.bls (bl x)).err = er := ⟨_, rfl⟩
 rw [her]
 have Her := Lib.hid her
 clear her
 by_cases herr : ¬ er = 0
 ·have d1 : (er != 0) = true := by simp [herr]
  have Hne := Lib.hid herr
  clear herr
  go_wp2_with fail
  go_ret2
  exact ⟨_, [], 1, rfl, ⟨none, 0, rfl, fun h => by simp [strs] at h⟩, H2.out.2.2.2, .inl ⟨fun h => Hne.out (by rw [← Her.out]; exact h.2), rfl, rfl⟩⟩
 obtain rfl := Classical.not_not.1 herr
 clear herr
 have d1 : ((0 : Int) != 0) = false := rfl
 -- the word and the rules
 have hT := told_of Hv.out.2.1
 obtain ⟨wd, hwd⟩ : ∃ wd : List Int, wd = rdL A.bls (bl x) := ⟨_, rfl⟩
 have hwl : (readL A.bls (bl x)).letters = wd := hwd.symm
 have hn0 : 0 < wd.length := by rw [hwd]; exact rd_pos hT Her.out
 have hn24 : wd.length ≤ 24 := by rw [hwd]; exact rdL_len _ _
 obtain ⟨hrow2, hb2, hb02, hbF⟩ := H2.out
 rw [hwl] at hrow2
 obtain ⟨g, rc, rfl, hrc, hrcm, hg1, hg2, hgc⟩ := own_parts hrow2 hn0
 obtain ⟨m, hm⟩ : ∃ m, R.list.length = m := ⟨_, rfl⟩
 have hm1 : 1 ≤ m ∧ m ≤ 80 := by have := Hv.out.1.2.2.1; have := Hv.out.1.2.2.2.1; omega
 obtain ⟨hFl, hrow, hlet⟩ := HF.out
 obtain ⟨base, hbase⟩ : ∃ b, w2.heap.size = b := ⟨_, rfl⟩
 have hw1b : w1.heap.size ≤ base := by have := hb2.size; omega
 -- what lies below the table, in every world
 have hword : ∀ wr, Below base w2 wr → ∀ i (hi : i < wd.length), wr.cell? ⟨g, i, none⟩ = some (.int .i64 wd[i]) := fun wr hb i hi => (hb.cell (p := ⟨g, i, none⟩) (by show g < base; omega)).trans (hgc i hi)
 obtain ⟨la1, cl, rfl, hflen, hrowA⟩ := RowAt.of_own hrow
 have hfl0 : 0 < (flatO R.list F).length := by rw [hflen]; omega
 obtain ⟨gl, ol, rfl, hgl, hglc⟩ := hrowA hfl0
 have hrule : ∀ wr, Below base w2 wr → ∀ (i : Nat) r, R.list[i]? = some r → ∃ fa1 fc1 na1 nc1, (∀ j v, (oneO r (.slice fa1 (rdL A.bls (bl r.src)).length fc1, .slice na1 (rdL A.bls (bl r.nxt)).length nc1))[j]? = some v → wr.cell? ⟨gl, ol + (i * 6 + j), none⟩ = some v) ∧
   RowAt wr base fa1 (nums (rdL A.bls (bl r.src))) ∧ RowAt wr base na1 (nums (rdL A.bls (bl r.nxt))) := fun wr hb i r hr => by
  have hil := (List.getElem?_eq_some_iff.1 hr).1
  obtain ⟨p, hp⟩ : ∃ p, F[i]? = some p := ⟨F[i]'(by omega), List.getElem?_eq_getElem _⟩
  obtain ⟨q1, q2⟩ := hlet i r p hr hp
  obtain ⟨fa1, fc1, e1, -, f1⟩ := RowAt.of_own q1
  obtain ⟨na1, nc1, e2, -, f2⟩ := RowAt.of_own q2
  rw [lettersL_rd] at e1 f1
  rw [lettersL_rd] at e2 f2
  have hp' : p = (.slice fa1 (rdL A.bls (bl r.src)).length fc1, .slice na1 (rdL A.bls (bl r.nxt)).length nc1) := by rw [← e1, ← e2]
  rw [hp'] at hp
  have hb1 : Below w1.heap.size w1 wr := hb2.trans (hb.mono hw1b)
  exact ⟨fa1, fc1, na1, nc1, fun j v hv => (hb1.cell (p := ⟨gl, ol + (i * 6 + j), none⟩) hgl).trans (hglc _ _ (flatO_get hr hp j v hv)), (f1.below hb1 (Nat.le_refl _)).more hw1b, (f2.below hb1 (Nat.le_refl _)).more hw1b⟩
 have Hlow := Lib.hid (And.intro hword hrule)
 have HT := Lib.hid hT
 obtain ⟨all, hall⟩ : ∃ all, all = R.list.map Rul.l := ⟨_, rfl⟩
 have hlett : ∀ y ∈ all, y.lett A.bls := by rw [hall]; exact rul_lett Hv.out
 have hdst : ∀ y ∈ all, y.lett A.bls ∧ y.dst.length ≤ 9 := fun y hy => ⟨hlett y hy, by
  rw [hall] at hy
  obtain ⟨r, hr, rfl⟩ := List.mem_map.1 hy
  have := (Hv.out.1.2.2.2.2.1 r hr).2.1.2.2
  show (bl r.dst).length ≤ 9
  rw [bl_length]; exact this⟩
 have Hall := Lib.hid (And.intro hall (And.intro hlett (And.intro hdst hm)))
 have Hwd := Lib.hid hwd
 have HbF := Lib.hid hbF
 -- the first table
 obtain ⟨Wb, hWb⟩ : ∃ Wb : World, Wb = (w2.alloc (.map #[] 0)).alloc (.map #[] 0) := ⟨_, rfl⟩
 have hszb : Wb.heap.size = base + 2 := by rw [hWb, ← hbase]; simp
 have hbb : Below base w2 Wb := by rw [hWb, ← hbase]; exact ((Below.refl _ _).alloc (Nat.le_refl _) _).alloc (by simp) _
 have hin0 : SetIs Wb (base + 1) OkStr (([] : List ByteArray).map Value.string) := by
  rw [hWb, ← hbase]
  have := SetIs.made (w2.alloc (.map #[] 0)) OkStr
  rw [World.size_alloc] at this
  exact this
 have hout0 : MapIs Wb base OkInt [] := by rw [hWb, ← hbase]; exact (MapIs.made w2 OkInt).alloc _
 obtain ⟨W5, hrun5, hs5, hg5, hz5⟩ := SetIs.put hin0 keyStr Tryz.underlying75 (key := .string ⟨#[]⟩) (okStr _)
 obtain ⟨W6, hrun6, hm6, hg6, hz6⟩ := MapIs.put_new (hout0.grown hg5 (fun e => by have := Option.some.inj e; omega)) keyInt Tryz.underlying101 (key := .int .i64 0) (okInt _) (by simp) (.map (some (base + 1)))
 have hT6 : TabAt W6 base base [(0, base + 1, [⟨#[]⟩])] := by
  refine ⟨hm6, fun e he => ?_, fun e he => ?_, Nat.le_refl _, fun e he => ?_, by simp⟩
  ·obtain rfl := List.mem_singleton.1 he
   have h1 := addS_set hs5
   have h2 : addS [] (⟨#[]⟩ : ByteArray) = [⟨#[]⟩] := by simp [addS]
   rw [h2] at h1
   exact MapIs.grown h1 hg6 (fun e => by have e' : base + 1 = base := Option.some.inj e; omega)
  ·obtain rfl := List.mem_singleton.1 he
   exact Nat.le_succ _
  ·obtain rfl := List.mem_singleton.1 he
   show base + 1 ≠ base
   omega
 have hb26 : Below base w2 W6 := (hbb.grown hg5 (by omega) (fun j hj => by cases hj; omega)).grown hg6 (by omega) (fun j hj => by cases hj; omega)
 have hK0 : ∀ (j : Nat) (s : ByteArray), s ∈ tsAt [(0, base + 1, [⟨#[]⟩])] j ↔ WriK A.bls all wd 0 j (bl s) := fun j s => by
  constructor
  ·intro h
   by_cases e : j = 0
   ·subst e
    have : s = ⟨#[]⟩ := by simpa [tsAt, entAt] using h
    subst this
    exact .inl ⟨rfl, rfl⟩
   ·have e' : ¬ 0 = j := fun h => e h.symm
    simp [tsAt, entAt, e'] at h
  ·rintro (⟨rfl, h⟩ | ⟨k', _, _, h, _⟩)
   ·have : s = ⟨#[]⟩ := bl_inj h
    subst this
    simp [tsAt, entAt]
   ·omega
 have HK0 := Lib.hid (And.intro hT6 (And.intro hb26 hK0))
 have hmm := @run_makeMap Tryz.prog
 rw [hWb, ← hbase] at hrun5
 rw [← hbase] at hrun6
 have hr5 : (Instr.mapUpdate 75 (.map (some (w2.heap.size + 1))) (.string ⟨#[]⟩) (.bool true)).run Tryz.prog ((w2.alloc (.map #[] 0)).alloc (.map #[] 0)) = .ok () W5 := hrun5
 have hr6 : (Instr.mapUpdate 101 (.map (some w2.heap.size)) (.int .i64 0) (.map (some (w2.heap.size + 1)))).run Tryz.prog W5 = .ok () W6 := hrun6
 have Hbs := Lib.hid hbase
 clear hm6 hg6 hz6 hs5 hg5 hz5 hin0 hout0 hbb hszb hWb hT6 hb26 hK0 hlett hdst hall hrule hword hglc hgl hfl0 hflen hrowA hrow hlet hFl hgc hwl hwd hT hrow2 hb2 hb02 hbF hrun5 hrun6 hm hbase
 go_wp2_with fail
 rw [Hbs.out]
 clear hr5 hr6 hmm
 have hRl : R.list.length ≤ 80 := Hv.out.1.2.2.2.1
 go_loopw [45] (fun s wr => ∃ (k : Nat) (T : List Ent), k ≤ wd.length ∧ s = .int .i64 k ∧ TabAt wr base base T ∧ (∀ (j : Nat) (t : ByteArray), t ∈ tsAt T j ↔ WriK A.bls all wd k j (bl t)) ∧ Below base w2 wr) (fun s _ => wd.length - (intOf s).toNat)
 case atStart => exact ⟨0, _, Nat.zero_le _, rfl, HK0.out.1, HK0.out.2.2, HK0.out.2.1⟩
 case round =>
  obtain ⟨k, T, hk, rfl, hTab, hKk, hbr⟩ := hrel
  have hlk := hTab.look
  have hln := fun k => hTab.len k
  have HTab := Lib.hid (And.intro hTab (And.intro hKk hbr))
  have hbF := HbF.out.trans (hbr.mono (by have := HbF.out.size; have := Hbs.out; omega))
  have HbFr := Lib.hid hbF
  clear hTab hKk hbr hbF
  obtain ⟨nk, hnk⟩ : ∃ nk, (tsAt T k).length = nk := ⟨_, rfl⟩
  obtain ⟨ovk, hov⟩ : ∃ o, vAt T k = o := ⟨_, rfl⟩
  have hlk1 := hlk k
  have hln1 := hln k
  rw [hnk, hov] at hln1
  rw [hov] at hlk1
  have Hnk := Lib.hid (And.intro hnk hov)
  clear hlk hln hnk hov
  by_cases hkl : k < wd.length
  ·by_cases h200 : 200 < nk
   ·have d2 : decide ((nk : Int) > 200) = true := decide_eq_true (by omega)
    have d2' : decide ((200 : Int) < (nk : Int)) = true := decide_eq_true (by omega)
    go_wp2_with fail
    go_ret2
    exact ⟨_, [], 2, rfl, ⟨none, 0, rfl, fun h => by simp [strs] at h⟩, HbFr.out, .inr ⟨⟨Hv.out, Her.out⟩, .inl ⟨rfl, rfl⟩⟩⟩
   have d2 : decide ((nk : Int) > 200) = false := decide_eq_false (by omega)
   have d2' : decide ((200 : Int) < (nk : Int)) = false := decide_eq_false (by omega)
   go_wp2_with fail
   clear hlk1 hln1
   obtain ⟨wo, rfl⟩ : ∃ wo : World, wo = wr := ⟨_, rfl⟩
   go_loopw [55] (fun s wx => ∃ (i : Nat) (T2 : List Ent), i ≤ R.list.length ∧ s = .int .i64 i ∧ TabAt wx base base T2 ∧ (∀ (j : Nat) (t : ByteArray), t ∈ tsAt T2 j ↔ WriX A.bls all wd k (all.take i) j (bl t)) ∧ Below base w2 wx) (fun s _ => R.list.length - (intOf s).toNat)
   case atStart => exact ⟨0, T, Nat.zero_le _, rfl, HTab.out.1, fun j t => by rw [List.take_zero, wriX_nil]; exact HTab.out.2.1 j t, HTab.out.2.2⟩
   case round =>
    obtain ⟨i, T2, hi, rfl, hTab2, hKx, hbx⟩ := hrel
    by_cases hil : i < R.list.length
    ·obtain ⟨r, hr⟩ : ∃ r, R.list[i]? = some r := ⟨R.list[i], List.getElem?_eq_getElem hil⟩
     obtain ⟨fa1, fc1, na1, nc1, hcell, hrf, hrn⟩ := Hlow.out.2 wr hbx i r hr
     obtain ⟨fl, hfl⟩ : ∃ fl, (rdL A.bls (bl r.src)).length = fl := ⟨_, rfl⟩
     obtain ⟨nl, hnl⟩ : ∃ nl, (rdL A.bls (bl r.nxt)).length = nl := ⟨_, rfl⟩
     rw [hfl, hnl] at hcell
     have q0 : wr.cell? ⟨gl, ol + i * 6, none⟩ = some (.string r.src) := hcell 0 _ rfl
     have q1 : wr.cell? ⟨gl, ol + i * 6 + 1, none⟩ = some (.string r.dst) := by rw [Nat.add_assoc]; exact hcell 1 _ rfl
     have q2 : wr.cell? ⟨gl, ol + i * 6 + 2, none⟩ = some (.string r.nxt) := by rw [Nat.add_assoc]; exact hcell 2 _ rfl
     have q3 : wr.cell? ⟨gl, ol + i * 6 + 3, none⟩ = some (.bool r.fin) := by rw [Nat.add_assoc]; exact hcell 3 _ rfl
     have q4 : wr.cell? ⟨gl, ol + i * 6 + 4, none⟩ = some (.slice fa1 fl fc1) := by rw [Nat.add_assoc]; exact hcell 4 _ rfl
     have q5 : wr.cell? ⟨gl, ol + i * 6 + 5, none⟩ = some (.slice na1 nl nc1) := by rw [Nat.add_assoc]; exact hcell 5 _ rfl
     have HX := Lib.hid (And.intro hTab2 (And.intro hKx (And.intro hbx (And.intro hrf (And.intro hrn (And.intro hfl (And.intro hnl hr)))))))
     have hbz := hbx.size
     clear hTab2 hKx hbx hrf hrn hfl hnl hcell hr
     go_upto_region 16 with (fail)
     obtain ⟨W8, hW8⟩ : ∃ W8 : World, W8 = wr.alloc (.cells #[.string r.src, .string r.dst, .string r.nxt, .bool r.fin, .slice fa1 fl fc1, .slice na1 nl nc1] 103) := ⟨_, rfl⟩
     obtain ⟨xb, hxb⟩ : ∃ xb, wr.heap.size = xb := ⟨_, rfl⟩
     rw [← hW8, hxb]
     have hX8 : Blk W8 xb #[.string r.src, .string r.dst, .string r.nxt, .bool r.fin, .slice fa1 fl fc1, .slice na1 nl nc1] 103 := by rw [hW8, ← hxb]; exact Blk.new _ _ _
     have hb8 : Below xb wr W8 := by rw [hW8, ← hxb]; exact (Below.refl _ _).alloc (Nat.le_refl _) _
     have hbx8 : Below base w2 W8 := HX.out.2.2.1.trans (hb8.mono (by have := Hbs.out; omega))
     have hxb1 : base ≤ xb := by have := Hbs.out; omega
     have Hcl := Lib.hid (fun (w' : World) (hb : Below W8.heap.size W8 w') => (show w'.cell? ⟨xb, 0, none⟩ = some (.string r.src) ∧ w'.cell? ⟨xb, 1, none⟩ = some (.string r.dst) ∧ w'.cell? ⟨xb, 2, none⟩ = some (.string r.nxt) ∧ w'.cell? ⟨xb, 3, none⟩ = some (.bool r.fin) ∧ w'.cell? ⟨xb, 4, none⟩ = some (.slice fa1 fl fc1) ∧ w'.cell? ⟨xb, 5, none⟩ = some (.slice na1 nl nc1) from ⟨(hX8.below hb hX8.lt).cell 0, (hX8.below hb hX8.lt).cell 1, (hX8.below hb hX8.lt).cell 2, (hX8.below hb hX8.lt).cell 3, (hX8.below hb hX8.lt).cell 4, (hX8.below hb hX8.lt).cell 5⟩))
     have Hcb := Lib.hid (fun (w' : World) (hb : Blk w' xb #[.string r.src, .string r.dst, .string r.nxt, .bool r.fin, .slice fa1 fl fc1, .slice na1 nl nc1] 103) => (show w'.cell? ⟨xb, 0, none⟩ = some (.string r.src) ∧ w'.cell? ⟨xb, 1, none⟩ = some (.string r.dst) ∧ w'.cell? ⟨xb, 2, none⟩ = some (.string r.nxt) ∧ w'.cell? ⟨xb, 3, none⟩ = some (.bool r.fin) ∧ w'.cell? ⟨xb, 4, none⟩ = some (.slice fa1 fl fc1) ∧ w'.cell? ⟨xb, 5, none⟩ = some (.slice na1 nl nc1) from ⟨hb.cell 0, hb.cell 1, hb.cell 2, hb.cell 3, hb.cell 4, hb.cell 5⟩))
     have hTab8 : TabAt W8 base base T2 := HX.out.1.below (by rw [hxb]; exact hb8)
     have hrr : RowAt W8.drew W8.drew.heap.size fa1 (nums (rdL A.bls (bl r.src))) := ((hX8.lt |> fun _ => HX.out.2.2.2.1.below hb8 (by omega)).more (by have := hX8.lt; show base ≤ W8.heap.size; omega))
     have hnn : RowAt W8.drew W8.drew.heap.size na1 (nums (rdL A.bls (bl r.nxt))) := ((hX8.lt |> fun _ => HX.out.2.2.2.2.1.below hb8 (by omega)).more (by have := hX8.lt; show base ≤ W8.heap.size; omega))
     have hgW : g < W8.drew.heap.size := by have := hX8.lt; have := Hbs.out; show g < W8.heap.size; omega
     have hww : RowAt W8.drew W8.drew.heap.size (some ⟨g, k, none⟩) (nums (wd.drop k)) := row_drop hgW (Hlow.out.1 W8 hbx8)
     have hral : r.l ∈ all := by rw [Hall.out.1]; exact List.mem_map.2 ⟨r, List.mem_of_getElem? HX.out.2.2.2.2.2.2.2, rfl⟩
     have hf1 : 1 ≤ fl := by rw [← HX.out.2.2.2.2.2.1]; exact rd_pos HT.out (Hall.out.2.1 _ hral).src
     have hf24 : fl ≤ 24 := by rw [← HX.out.2.2.2.2.2.1]; exact rdL_len _ _
     have hQ := stands_any r (rdL A.bls (bl r.src)) (rdL A.bls (bl r.nxt)) (wd.drop k) fa1 na1 (some ⟨g, k, none⟩) fc1 nc1 (rc - k) (by rw [HX.out.2.2.2.2.2.1]; exact hf1) (rdL_len _ _) (rdL_len _ _) (by rw [List.length_drop]; omega) (by rw [List.length_drop]; omega) W8.drew hrr hnn hww
     rw [HX.out.2.2.2.2.2.1, HX.out.2.2.2.2.2.2.1, List.length_drop] at hQ
     have H8 := Lib.hid (And.intro hTab8 (And.intro hbx8 (And.intro hb8 (And.intro hX8 hral))))
     obtain ⟨z0, z1, z2, z3, z4, z5⟩ := Hcl.out W8 (Below.refl _ _)
     clear hTab8 hbx8 hb8 hX8 hral hrr hnn hww hgW hW8 q0 q1 q2 q3 q4 q5
     have hrk : ¬ rc = k := by omega
     have htk : all.take (i + 1) = all.take i ++ [r.l] := by
      have h1 : all[i]? = some r.l := by rw [Hall.out.1, List.getElem?_map, HX.out.2.2.2.2.2.2.2]; rfl
      rw [List.take_add_one, h1]; rfl
     have Htk := Lib.hid htk
     clear htk
     by_cases hst : ¬ Stands A.bls r.l (wd.drop k)
     ·have e1 : decide (StandsI (rdL A.bls (bl r.src)) (rdL A.bls (bl r.nxt)) r.fin (wd.drop k)) = false := decide_eq_false (fun h => hst (stands_iff.1 h))
      rw [e1] at hQ
      have HQ := Lib.hid hQ
      have Hst := Lib.hid hst
      clear hQ hst e1
      refine wp_region_held_drew (S := fun w' => Below W8.heap.size W8 w') (by kernel_rfl) (Below.refl _ _).drew (fun hHeld => ?_)
      refine wpAnyH_take (i := 0) (v := .agg #[.string r.src, .string r.dst, .string r.nxt, .bool r.fin, .slice fa1 fl fc1, .slice na1 nl nc1]) (show _ = some ⟨some 59, _, _, _, _, _⟩ from rfl) (by as_aux_lemma => kernel_rfl) (by as_aux_lemma => kernel_rfl) (by as_aux_lemma => kernel_rfl) (fun _ _ _ h => h) (Or.inl ⟨by rfl, ?_⟩) (by assumption) ?_
      ·intro w' hb
       obtain ⟨s0, s1, s2, s3, s4, s5⟩ := Hcl.out w' hb
       go_simp
      try simp only [Act.put, List.setIfInBounds_toArray, List.set_cons_zero, List.set_cons_succ]
      refine wpAnyH_take (i := 1) (v := .slice (some ⟨g, 0, none⟩) wd.length rc) (show _ = some ⟨some 60, _, _, _, _, _⟩ from rfl) (by as_aux_lemma => kernel_rfl) (by as_aux_lemma => kernel_rfl) (by as_aux_lemma => kernel_rfl) (fun _ _ _ h => h) (Or.inl ⟨by rfl, ?_⟩) (by assumption) ?_
      ·intro w' hb
       obtain ⟨s0, s1, s2, s3, s4, s5⟩ := Hcl.out w' hb
       go_simp
      try simp only [Act.put, List.setIfInBounds_toArray, List.set_cons_zero, List.set_cons_succ]
      refine wpAnyH_take (i := 2) (v := .int .i64 (k : Int)) (show _ = some ⟨some 61, _, _, _, _, _⟩ from rfl) (by as_aux_lemma => kernel_rfl) (by as_aux_lemma => kernel_rfl) (by as_aux_lemma => kernel_rfl) (fun _ _ _ h => h) (Or.inl ⟨by rfl, ?_⟩) (by assumption) ?_
      ·intro w' hb
       obtain ⟨s0, s1, s2, s3, s4, s5⟩ := Hcl.out w' hb
       go_simp
      try simp only [Act.put, List.setIfInBounds_toArray, List.set_cons_zero, List.set_cons_succ]
      refine wpAnyH_take (i := 3) (v := .slice (some ⟨g, k, none⟩) (wd.length - k) (rc - k)) (show _ = some ⟨some 62, _, _, _, _, _⟩ from rfl) (by as_aux_lemma => kernel_rfl) (by as_aux_lemma => kernel_rfl) (by as_aux_lemma => kernel_rfl) (fun _ _ _ h => h) (Or.inl ⟨by rfl, ?_⟩) (by assumption) ?_
      ·intro w' hb
       obtain ⟨s0, s1, s2, s3, s4, s5⟩ := Hcl.out w' hb
       go_simp
      try simp only [Act.put, List.setIfInBounds_toArray, List.set_cons_zero, List.set_cons_succ]
      refine wpAnyH_ready (rs := [4]) (by as_aux_lemma => kernel_rfl) (by simp) (AllReadyH.cons (i := 4) (show _ = some ⟨some 63, _, _, _, _, _⟩ from rfl) (fun K hK => ?_) AllReadyH.nil)
      simp only [Act.put, List.setIfInBounds_toArray, List.set_cons_zero, List.set_cons_succ]
      go_simp
      refine HQ.out.mono ?_
      rintro e w6 ⟨rfl, hb6⟩
      have hb86 : Below W8.heap.size W8 w6 := (show Below W8.heap.size W8 W8.drew from (Below.refl _ _).drew).trans hb6
      refine hK.out _ _ hb86 (fun _ => ?_)
      clear hK K hb6 hHeld
      try simp only [Act.put, List.setIfInBounds_toArray, List.set_cons_zero, List.set_cons_succ]
      refine wpAnyH_take (i := 5) (v := .bool true) (show _ = some ⟨some 64, _, _, _, _, _⟩ from rfl) (by as_aux_lemma => kernel_rfl) (by as_aux_lemma => kernel_rfl) (by as_aux_lemma => kernel_rfl) (fun _ _ _ h => h) (Or.inl ⟨by rfl, ?_⟩) (by assumption) ?_
      ·intro w' hb
       obtain ⟨s0, s1, s2, s3, s4, s5⟩ := Hcl.out w' hb
       go_simp
      try simp only [Act.put, List.setIfInBounds_toArray, List.set_cons_zero, List.set_cons_succ]
      refine wpAnyH_done (by as_aux_lemma => kernel_rfl) ?_ _
      go_simp
      go_wp2_with fail
      refine ⟨⟨i + 1, T2, hil, by go_num, H8.out.1.below hb86, fun j t => ?_, H8.out.2.1.trans (hb86.mono (by have := H8.out.2.2.2.1.lt; omega))⟩, by simp [intOf]; omega⟩
      rw [Htk.out, wriX_skip Hst.out]
      exact HX.out.2.1 j t
     ·have hst' := Classical.not_not.1 hst
      have e1 : decide (StandsI (rdL A.bls (bl r.src)) (rdL A.bls (bl r.nxt)) r.fin (wd.drop k)) = true := decide_eq_true (stands_iff.2 hst')
      rw [e1] at hQ
      have HQ := Lib.hid hQ
      have HSt := Lib.hid hst'
      clear hQ hst hst' e1
      refine wp_region_held_drew (S := fun w' => Below W8.heap.size W8 w') (by kernel_rfl) (Below.refl _ _).drew (fun hHeld => ?_)
      refine wpAnyH_take (i := 0) (v := .agg #[.string r.src, .string r.dst, .string r.nxt, .bool r.fin, .slice fa1 fl fc1, .slice na1 nl nc1]) (show _ = some ⟨some 59, _, _, _, _, _⟩ from rfl) (by as_aux_lemma => kernel_rfl) (by as_aux_lemma => kernel_rfl) (by as_aux_lemma => kernel_rfl) (fun _ _ _ h => h) (Or.inl ⟨by rfl, ?_⟩) (by assumption) ?_
      ·intro w' hb
       obtain ⟨s0, s1, s2, s3, s4, s5⟩ := Hcl.out w' hb
       go_simp
      try simp only [Act.put, List.setIfInBounds_toArray, List.set_cons_zero, List.set_cons_succ]
      refine wpAnyH_take (i := 1) (v := .slice (some ⟨g, 0, none⟩) wd.length rc) (show _ = some ⟨some 60, _, _, _, _, _⟩ from rfl) (by as_aux_lemma => kernel_rfl) (by as_aux_lemma => kernel_rfl) (by as_aux_lemma => kernel_rfl) (fun _ _ _ h => h) (Or.inl ⟨by rfl, ?_⟩) (by assumption) ?_
      ·intro w' hb
       obtain ⟨s0, s1, s2, s3, s4, s5⟩ := Hcl.out w' hb
       go_simp
      try simp only [Act.put, List.setIfInBounds_toArray, List.set_cons_zero, List.set_cons_succ]
      refine wpAnyH_take (i := 2) (v := .int .i64 (k : Int)) (show _ = some ⟨some 61, _, _, _, _, _⟩ from rfl) (by as_aux_lemma => kernel_rfl) (by as_aux_lemma => kernel_rfl) (by as_aux_lemma => kernel_rfl) (fun _ _ _ h => h) (Or.inl ⟨by rfl, ?_⟩) (by assumption) ?_
      ·intro w' hb
       obtain ⟨s0, s1, s2, s3, s4, s5⟩ := Hcl.out w' hb
       go_simp
      try simp only [Act.put, List.setIfInBounds_toArray, List.set_cons_zero, List.set_cons_succ]
      refine wpAnyH_take (i := 3) (v := .slice (some ⟨g, k, none⟩) (wd.length - k) (rc - k)) (show _ = some ⟨some 62, _, _, _, _, _⟩ from rfl) (by as_aux_lemma => kernel_rfl) (by as_aux_lemma => kernel_rfl) (by as_aux_lemma => kernel_rfl) (fun _ _ _ h => h) (Or.inl ⟨by rfl, ?_⟩) (by assumption) ?_
      ·intro w' hb
       obtain ⟨s0, s1, s2, s3, s4, s5⟩ := Hcl.out w' hb
       go_simp
      try simp only [Act.put, List.setIfInBounds_toArray, List.set_cons_zero, List.set_cons_succ]
      refine wpAnyH_ready (rs := [4]) (by as_aux_lemma => kernel_rfl) (by simp) (AllReadyH.cons (i := 4) (show _ = some ⟨some 63, _, _, _, _, _⟩ from rfl) (fun K hK => ?_) AllReadyH.nil)
      simp only [Act.put, List.setIfInBounds_toArray, List.set_cons_zero, List.set_cons_succ]
      go_simp
      refine HQ.out.mono ?_
      rintro e w6 ⟨rfl, hb6⟩
      have hb86 : Below W8.heap.size W8 w6 := (show Below W8.heap.size W8 W8.drew from (Below.refl _ _).drew).trans hb6
      refine hK.out _ _ hb86 (fun _ => ?_)
      clear hK K hb6 hHeld
      try simp only [Act.put, List.setIfInBounds_toArray, List.set_cons_zero, List.set_cons_succ]
      refine wpAnyH_take (i := 5) (v := .bool false) (show _ = some ⟨some 64, _, _, _, _, _⟩ from rfl) (by as_aux_lemma => kernel_rfl) (by as_aux_lemma => kernel_rfl) (by as_aux_lemma => kernel_rfl) (fun _ _ _ h => h) (Or.inl ⟨by rfl, ?_⟩) (by assumption) ?_
      ·intro w' hb
       obtain ⟨s0, s1, s2, s3, s4, s5⟩ := Hcl.out w' hb
       go_simp
      try simp only [Act.put, List.setIfInBounds_toArray, List.set_cons_zero, List.set_cons_succ]
      refine wpAnyH_done (by as_aux_lemma => kernel_rfl) ?_ _
      go_simp
      obtain ⟨a, ha⟩ : ∃ a, a = k + fl := ⟨_, rfl⟩
      have hwrap : IntKind.i64.wrap ((k : Int) + (fl : Int)) = (a : Int) := by rw [IntWalk.i64_in _ (by omega)]; omega
      have hak : a ≠ k := by omega
      have Ha := Lib.hid ha
      obtain ⟨x0, x1, x2, x3, x4, x5⟩ := Hcl.out w6 hb86
      have hTab6 : TabAt w6 base base T2 := H8.out.1.below hb86
      have hbx6 : Below base w2 w6 := H8.out.2.1.trans (hb86.mono (by have := H8.out.2.2.2.1.lt; omega))
      have hlka := hTab6.look a
      have hw86 := hb86.size
      have hX8l := H8.out.2.2.2.1.lt
      obtain ⟨oa, hoa⟩ : ∃ o, vAt T2 a = o := ⟨_, rfl⟩
      rw [hoa] at hlka
      have H6 := Lib.hid (And.intro hTab6 (And.intro hbx6 (And.intro hoa hb86)))
      clear hTab6 hbx6 hoa ha
      cases oa with
      | none =>
       have heq : ∀ w, (binOp .eql 75 (.map none) (.map none)).run Tryz.prog w = .ok (.bool true) w := fun w => run_eql_map_nil w 75 _ _ none Tryz.underlying75
       obtain ⟨WZ, hput, hTZ, hcZ, hzZ⟩ := H6.out.1.new_place H6.out.2.2.1 (by have := Hbs.out; have := H6.out.2.1.size; omega)
       have hmm := @run_makeMap Tryz.prog
       obtain ⟨T3, hT3⟩ : ∃ T3, T3 = newT T2 a w6.heap.size := ⟨_, rfl⟩
       obtain ⟨bat, hbat⟩ : ∃ bat, bat = w6.heap.size := ⟨_, rfl⟩
       have hvb : vAt T3 a = some bat := by rw [hT3, hbat, vAt_new H6.out.2.2.1, if_pos rfl]
       have hbZ : Below base w2 WZ := H6.out.2.1.trans (hcZ.below (fun b hb => by have : b = base := hb; omega) (by have := H6.out.2.1.size; have := Hbs.out; omega))
       have hBZ : Blk WZ xb #[.string r.src, .string r.dst, .string r.nxt, .bool r.fin, .slice fa1 fl fc1, .slice na1 nl nc1] 103 := (H8.out.2.2.2.1.below hb86 hX8l).chg hcZ (fun e => blk_ne_map H8.out.2.2.2.1 H8.out.1.map e)
       have HZ := Lib.hid (show TabAt WZ base base T3 ∧ (∀ j t, t ∈ tsAt T3 j ↔ WriX A.bls all wd k (all.take i) j (bl t)) ∧ Below base w2 WZ ∧ vAt T3 a = some bat from ⟨by rw [hT3]; exact hTZ, fun j t => by rw [hT3, tsAt_new H6.out.2.2.1]; exact HX.out.2.1 j t, hbZ, hvb⟩)
       clear hTZ hcZ hzZ hT3 hbat hvb hbZ
       go_upto_region 20 with (fail)
       clear hput heq hmm hlka x0 x1 x2 x3 x4 x5
       obtain ⟨y0, y1, y2, y3, y4, y5⟩ := Hcb.out WZ hBZ
       have hlkk := HZ.out.1.look k
       obtain ⟨ok3, hok3⟩ : ∃ o, vAt T3 k = o := ⟨_, rfl⟩
       rw [hok3] at hlkk
       have Hok := Lib.hid hok3
       have hwx : ∀ s, s ∈ tsAt T3 k ↔ Writ A.bls all wd k (bl s) := fun s => (HZ.out.2.1 k s).trans (wriX_own HT.out Hall.out.2.1 (fun y hy => List.mem_of_mem_take hy))
       have Hwx := Lib.hid hwx
       have hbZ0 := HZ.out.2.2.1.size
       clear hwx hok3
       cases ok3 with
       | none =>
        have hrng := run_range_nilMap (P := Tryz.prog) WZ 75 _ _ Tryz.underlying75
        have hbI : Below WZ.heap.size WZ (WZ.alloc (.mapIter none 0 #[] 0)) := (Below.refl _ _).alloc (Nat.le_refl _) _
        have HI := Lib.hid (And.intro (HZ.out.1.below hbI) (HZ.out.2.2.1.trans (hbI.mono (by have := Hbs.out; omega))))
        have hnx : ∀ ty, (Instr.next (.pointer (some ⟨WZ.heap.size, 0, none⟩)) false ty).run Tryz.prog (WZ.alloc (.mapIter none 0 #[] 0)) = .ok (.tuple #[.bool false]) (WZ.alloc (.mapIter none 0 #[] 0)) := fun ty => run_next_nilMap WZ ty 0 0 #[]
        clear hbI
        go_wp2_with fail
        clear hrng hlkk
        go_loopw [] (fun wy => wy = WZ.alloc (.mapIter none 0 #[] 0)) (fun _ => 0)
        case atStart => rfl
        case round =>
         have hrel' := hrel
         clear hrel
         subst hrel'
         go_wp2_with fail
         refine ⟨⟨i + 1, T3, hil, by go_num, HI.out.1, fun j t => ?_, HI.out.2⟩, by simp [intOf]; omega⟩
         have hs0 : ∀ s : List UInt8, s ∈ ([] : List (List UInt8)) ↔ Writ A.bls all wd k s := fun s => by
          constructor
          ·intro h; cases h
          ·intro h
           have h1 := (Hwx.out ⟨s.toArray⟩).2 (by simpa [bl] using h)
           rw [tsAt_none Hok.out] at h1
           cases h1
         rw [Htk.out, ← wriS_done HSt.out hs0, wriS_nil]
         exact HZ.out.2.1 j t
       | some bk =>
        obtain ⟨hset, hbk1, hbk2⟩ := vAt_set HZ.out.1 Hok.out
        obtain ⟨ro, hrng, hR⟩ := MapIs.range (P := Tryz.prog) hset Tryz.underlying75
        rw [strV_set] at hR
        have hbkat : bk ≠ bat := fun e => hak (vAt_ne HZ.out.1 HZ.out.2.2.2 (by rw [Hok.out, e]))
        have hbI : Below WZ.heap.size WZ (WZ.alloc ro) := (Below.refl _ _).alloc (Nat.le_refl _) _
        obtain ⟨tsk, htsk⟩ : ∃ l, tsAt T3 k = l := ⟨_, rfl⟩
        obtain ⟨ri, hri⟩ : ∃ l, WZ.heap.size = l := ⟨_, rfl⟩
        obtain ⟨WI, hWI⟩ : ∃ WI, WI = WZ.alloc ro := ⟨_, rfl⟩
        rw [← hWI, htsk, hri] at hR
        rw [← hWI, hri] at hbI
        have HI := Lib.hid (And.intro hR (And.intro (HZ.out.1.below (by rw [hri]; exact hbI)) (And.intro (hBZ.below hbI (by have := hBZ.lt; omega)) (And.intro (HZ.out.2.2.1.trans (hbI.mono (by have := Hbs.out; omega))) (And.intro htsk hbkat)))))
        have HWI := Lib.hid (And.intro hWI hri)
        clear hset hR hbI htsk hbkat hWI hri
        go_wp2_with fail
        rw [← HWI.out.1, HWI.out.2]
        clear hrng hlkk
        go_loopw [] (fun wy => ∃ (T4 : List Ent) (sd left : List ByteArray), TabAt wy base base T4 ∧ RangeIs wy bk ri OkStr (strV tsk) (strV left) ∧ vAt T4 a = some bat ∧ Blk wy xb #[.string r.src, .string r.dst, .string r.nxt, .bool r.fin, .slice fa1 fl fc1, .slice na1 nl nc1] 103 ∧ (∀ s, s ∈ tsk ↔ s ∈ sd ∨ s ∈ left) ∧ (∀ j t, t ∈ tsAt T4 j ↔ WriS A.bls all wd k (all.take i) r.l (sd.map bl) j (bl t)) ∧ Below base w2 wy) (fun wy => leftN wy bk ri)
        case atStart => exact ⟨T3, [], tsk, HI.out.2.1, HI.out.1, HZ.out.2.2.2, HI.out.2.2.1, fun s => by simp, fun j t => by rw [List.map_nil, wriS_nil]; exact HZ.out.2.1 j t, HI.out.2.2.2.1⟩
        case round =>
         obtain ⟨T4, sd, left, h1, h2, h3, h4, h5, h6, h7⟩ := hrel
         rcases RangeIs.next (P := Tryz.prog) h2 0 with ⟨hl, hrun⟩ | ⟨A', pr, B', w', hl, hrun, hrg', hg', hs', hent⟩
         ·have hnx : ∀ ty, (Instr.next (.pointer (some ⟨ri, 0, none⟩)) false ty).run Tryz.prog wr = .ok (.tuple #[.bool false]) wr := fun _ => hrun
          have hz : left = [] := List.map_eq_nil_iff.1 hl
          have HE := Lib.hid (And.intro h1 (And.intro h5 (And.intro h6 (And.intro h7 hz))))
          clear hl hz hrun h1 h2 h3 h4 h5 h6 h7
          go_wp2_with fail
          refine ⟨⟨i + 1, T4, hil, by go_num, HE.out.1, fun j t => ?_, HE.out.2.2.2.1⟩, by simp [intOf]; omega⟩
          have hs0 : ∀ s : List UInt8, s ∈ sd.map bl ↔ Writ A.bls all wd k s := fun s => by
           have hts := HI.out.2.2.2.2.1
           constructor
           ·intro h
            obtain ⟨s', hs', rfl⟩ := List.mem_map.1 h
            refine (Hwx.out s').1 ?_
            rw [hts]
            exact (HE.out.2.1 s').2 (.inl hs')
           ·intro h
            have h1 := (Hwx.out ⟨s.toArray⟩).2 (by simpa [bl] using h)
            rw [hts] at h1
            rcases (HE.out.2.1 _).1 h1 with h2 | h2
            ·exact List.mem_map.2 ⟨_, h2, by simp [bl]⟩
            ·rw [HE.out.2.2.2.2] at h2; cases h2
          rw [Htk.out, ← wriS_done HSt.out hs0]
          exact HE.out.2.2.1 j t
         ·obtain ⟨la', s, lb', hleft, rfl, rfl, rfl⟩ := split_str hl
          have hnx : ∀ ty, (Instr.next (.pointer (some ⟨ri, 0, none⟩)) false ty).run Tryz.prog wr = .ok (.tuple #[.bool true, .string s, .bool true]) w' := fun _ => hrun
          have hent' : (Instr.entry (.pointer (some ⟨ri, 0, none⟩))).run Tryz.prog w' = .ok (.tuple #[.string s, .bool true]) w' := hent
          have hmap1 := range_ne h2 h1.map
          have hT' : TabAt w' base base T4 := h1.grown hg' hmap1 (fun e he => range_ne h2 (h1.sets e he))
          have hX' : Blk w' xb #[.string r.src, .string r.dst, .string r.nxt, .bool r.fin, .slice fa1 fl fc1, .slice na1 nl nc1] 103 := h4.grown hg' (fun e => range_blk h2 h4 (Option.some.inj e))
          have hlka := hT'.look a
          rw [h3] at hlka
          obtain ⟨w'', hput, hT5, hg5, hz5⟩ := hT'.put h3 (s ++ r.dst)
          have hst : s ∈ tsk := (h5 s).2 (.inr (by rw [hleft]; simp))
          have hsz := (writ_size HT.out Hall.out.2.2.1 ((Hwx.out s).1 (by rw [HI.out.2.2.2.2.1]; exact hst))).1
          rw [bl_length] at hsz
          have hdz := (Hall.out.2.2.1 _ H8.out.2.2.2.2).2
          have hdz' : r.dst.size ≤ 9 := by rw [← bl_length]; exact hdz
          have hadd : ∀ W, (Op.stringOp .add s r.dst).run Tryz.prog W = .ok (.string (s ++ r.dst)) W := fun W => by first | exact run_string_add W _ _ (by omega) (by omega) | exact run_string_add _ _ (by omega) (by omega)
          obtain ⟨z0', z1', z2', z3', z4', z5'⟩ := Hcb.out w' hX'
          have hbat := vAt_set hT' h3
          have HE := Lib.hid (And.intro h1 (And.intro h2 (And.intro h3 (And.intro h4 (And.intro h5 (And.intro h6 (And.intro h7 (And.intro hleft (And.intro hrg' (And.intro hg' (And.intro hs' (And.intro hX' (And.intro hT5 (And.intro hg5 (And.intro hz5 (And.intro hbat hT'))))))))))))))))
          clear hl h1 h2 h3 h4 h5 h6 h7 hleft hrun hrg' hg' hs' hent hmap1 hT' hX' hT5 hg5 hz5 hst hsz hdz hdz' hbat
          go_wp2_with fail
          obtain ⟨h1, h2, h3, h4, h5, h6, h7, hleft, hrg', hg', hs', hX', hT5, hg5, hz5, hbat, hT'⟩ := HE.out
          have hrg5 := hrg'.grown hg5 (fun e => HI.out.2.2.2.2.2 (Option.some.inj e)) (fun e => range_ne hrg' hbat.1 (Option.some.inj e).symm)
          have hlo : base ≤ ri := by have := HWI.out.2; have := HZ.out.1.map.lt; omega
          refine ⟨⟨putT T4 a (s ++ r.dst), sd ++ [s], la' ++ lb', hT5, by unfold strV at *; rw [List.map_append]; exact hrg5, by rw [vAt_put]; exact h3, hX'.grown hg5 (fun e => blk_ne_map hX' hbat.1 (Option.some.inj e)), fun s' => ?_, fun j t => ?_, (h7.grown hg' (by have := h7.size; have := Hbs.out; omega) (fun q hq => by cases hq; exact hlo)).grown hg5 (by have := h7.size; have := Hbs.out; omega) (fun q hq => by cases hq; exact hbat.2.1)⟩, ?_⟩
          ·rw [h5 s', hleft]
           simp only [List.mem_append, List.mem_cons, List.not_mem_nil, or_false]
           constructor
           ·rintro (h | h | h | h)
            ·exact .inl (.inl h)
            ·exact .inr (.inl h)
            ·exact .inl (.inr h)
            ·exact .inr (.inr h)
           ·rintro ((h | h) | h | h)
            ·exact .inl h
            ·exact .inr (.inr (.inl h))
            ·exact .inr (.inl h)
            ·exact .inr (.inr (.inr h))
          ·rw [tsAt_put h3, List.map_append, List.map_cons, List.map_nil, wriS_snoc, h6 j t]
           have e1 : j = a ∧ t = s ++ r.dst ↔ j = k + (rdL A.bls r.l.src).length ∧ bl t = bl s ++ r.l.dst := by
            have e2 : bl (s ++ r.dst) = bl s ++ bl r.dst := by simp [bl]
            have e3 : a = k + (rdL A.bls r.l.src).length := by rw [Ha.out, ← HX.out.2.2.2.2.2.1]; rfl
            rw [← e3]
            constructor
            ·rintro ⟨q1, rfl⟩; exact ⟨q1, e2⟩
            ·rintro ⟨q1, q2⟩; exact ⟨q1, bl_inj (q2.trans e2.symm)⟩
           rw [e1]
          ·rw [hrg5.leftN, h2.leftN, hleft]
           simp [strV]
      | some bat =>
       have heq : ∀ w, (binOp .eql 75 (.map (some bat)) (.map none)).run Tryz.prog w = .ok (.bool false) w := fun w => run_eql_map_nil w 75 _ _ (some bat) Tryz.underlying75
       obtain ⟨WZ, hWZ⟩ : ∃ WZ, WZ = w6 := ⟨_, rfl⟩
       obtain ⟨T3, hT3⟩ : ∃ T3, T3 = T2 := ⟨_, rfl⟩
       have hBZ : Blk WZ xb #[.string r.src, .string r.dst, .string r.nxt, .bool r.fin, .slice fa1 fl fc1, .slice na1 nl nc1] 103 := by rw [hWZ]; exact H8.out.2.2.2.1.below hb86 hX8l
       have HZ := Lib.hid (show TabAt WZ base base T3 ∧ (∀ j t, t ∈ tsAt T3 j ↔ WriX A.bls all wd k (all.take i) j (bl t)) ∧ Below base w2 WZ ∧ vAt T3 a = some bat from ⟨by rw [hT3, hWZ]; exact H6.out.1, fun j t => by rw [hT3]; exact HX.out.2.1 j t, by rw [hWZ]; exact H6.out.2.1, by rw [hT3]; exact H6.out.2.2.1⟩)
       go_upto_region 20 with (fail)
       rw [← hWZ]
       clear heq hlka x0 x1 x2 x3 x4 x5 hWZ hT3
       obtain ⟨y0, y1, y2, y3, y4, y5⟩ := Hcb.out WZ hBZ
       have hlkk := HZ.out.1.look k
       obtain ⟨ok3, hok3⟩ : ∃ o, vAt T3 k = o := ⟨_, rfl⟩
       rw [hok3] at hlkk
       have Hok := Lib.hid hok3
       have hwx : ∀ s, s ∈ tsAt T3 k ↔ Writ A.bls all wd k (bl s) := fun s => (HZ.out.2.1 k s).trans (wriX_own HT.out Hall.out.2.1 (fun y hy => List.mem_of_mem_take hy))
       have Hwx := Lib.hid hwx
       have hbZ0 := HZ.out.2.2.1.size
       clear hwx hok3
       cases ok3 with
       | none =>
        have hrng := run_range_nilMap (P := Tryz.prog) WZ 75 _ _ Tryz.underlying75
        have hbI : Below WZ.heap.size WZ (WZ.alloc (.mapIter none 0 #[] 0)) := (Below.refl _ _).alloc (Nat.le_refl _) _
        have HI := Lib.hid (And.intro (HZ.out.1.below hbI) (HZ.out.2.2.1.trans (hbI.mono (by have := Hbs.out; omega))))
        have hnx : ∀ ty, (Instr.next (.pointer (some ⟨WZ.heap.size, 0, none⟩)) false ty).run Tryz.prog (WZ.alloc (.mapIter none 0 #[] 0)) = .ok (.tuple #[.bool false]) (WZ.alloc (.mapIter none 0 #[] 0)) := fun ty => run_next_nilMap WZ ty 0 0 #[]
        clear hbI
        go_wp2_with fail
        clear hrng hlkk
        go_loopw [] (fun wy => wy = WZ.alloc (.mapIter none 0 #[] 0)) (fun _ => 0)
        case atStart => rfl
        case round =>
         have hrel' := hrel
         clear hrel
         subst hrel'
         go_wp2_with fail
         refine ⟨⟨i + 1, T3, hil, by go_num, HI.out.1, fun j t => ?_, HI.out.2⟩, by simp [intOf]; omega⟩
         have hs0 : ∀ s : List UInt8, s ∈ ([] : List (List UInt8)) ↔ Writ A.bls all wd k s := fun s => by
          constructor
          ·intro h; cases h
          ·intro h
           have h1 := (Hwx.out ⟨s.toArray⟩).2 (by simpa [bl] using h)
           rw [tsAt_none Hok.out] at h1
           cases h1
         rw [Htk.out, ← wriS_done HSt.out hs0, wriS_nil]
         exact HZ.out.2.1 j t
       | some bk =>
        obtain ⟨hset, hbk1, hbk2⟩ := vAt_set HZ.out.1 Hok.out
        obtain ⟨ro, hrng, hR⟩ := MapIs.range (P := Tryz.prog) hset Tryz.underlying75
        rw [strV_set] at hR
        have hbkat : bk ≠ bat := fun e => hak (vAt_ne HZ.out.1 HZ.out.2.2.2 (by rw [Hok.out, e]))
        have hbI : Below WZ.heap.size WZ (WZ.alloc ro) := (Below.refl _ _).alloc (Nat.le_refl _) _
        obtain ⟨tsk, htsk⟩ : ∃ l, tsAt T3 k = l := ⟨_, rfl⟩
        obtain ⟨ri, hri⟩ : ∃ l, WZ.heap.size = l := ⟨_, rfl⟩
        obtain ⟨WI, hWI⟩ : ∃ WI, WI = WZ.alloc ro := ⟨_, rfl⟩
        rw [← hWI, htsk, hri] at hR
        rw [← hWI, hri] at hbI
        have HI := Lib.hid (And.intro hR (And.intro (HZ.out.1.below (by rw [hri]; exact hbI)) (And.intro (hBZ.below hbI (by have := hBZ.lt; omega)) (And.intro (HZ.out.2.2.1.trans (hbI.mono (by have := Hbs.out; omega))) (And.intro htsk hbkat)))))
        have HWI := Lib.hid (And.intro hWI hri)
        clear hset hR hbI htsk hbkat hWI hri
        go_wp2_with fail
        rw [← HWI.out.1, HWI.out.2]
        clear hrng hlkk
        go_loopw [] (fun wy => ∃ (T4 : List Ent) (sd left : List ByteArray), TabAt wy base base T4 ∧ RangeIs wy bk ri OkStr (strV tsk) (strV left) ∧ vAt T4 a = some bat ∧ Blk wy xb #[.string r.src, .string r.dst, .string r.nxt, .bool r.fin, .slice fa1 fl fc1, .slice na1 nl nc1] 103 ∧ (∀ s, s ∈ tsk ↔ s ∈ sd ∨ s ∈ left) ∧ (∀ j t, t ∈ tsAt T4 j ↔ WriS A.bls all wd k (all.take i) r.l (sd.map bl) j (bl t)) ∧ Below base w2 wy) (fun wy => leftN wy bk ri)
        case atStart => exact ⟨T3, [], tsk, HI.out.2.1, HI.out.1, HZ.out.2.2.2, HI.out.2.2.1, fun s => by simp, fun j t => by rw [List.map_nil, wriS_nil]; exact HZ.out.2.1 j t, HI.out.2.2.2.1⟩
        case round =>
         obtain ⟨T4, sd, left, h1, h2, h3, h4, h5, h6, h7⟩ := hrel
         rcases RangeIs.next (P := Tryz.prog) h2 0 with ⟨hl, hrun⟩ | ⟨A', pr, B', w', hl, hrun, hrg', hg', hs', hent⟩
         ·have hnx : ∀ ty, (Instr.next (.pointer (some ⟨ri, 0, none⟩)) false ty).run Tryz.prog wr = .ok (.tuple #[.bool false]) wr := fun _ => hrun
          have hz : left = [] := List.map_eq_nil_iff.1 hl
          have HE := Lib.hid (And.intro h1 (And.intro h5 (And.intro h6 (And.intro h7 hz))))
          clear hl hz hrun h1 h2 h3 h4 h5 h6 h7
          go_wp2_with fail
          refine ⟨⟨i + 1, T4, hil, by go_num, HE.out.1, fun j t => ?_, HE.out.2.2.2.1⟩, by simp [intOf]; omega⟩
          have hs0 : ∀ s : List UInt8, s ∈ sd.map bl ↔ Writ A.bls all wd k s := fun s => by
           have hts := HI.out.2.2.2.2.1
           constructor
           ·intro h
            obtain ⟨s', hs', rfl⟩ := List.mem_map.1 h
            refine (Hwx.out s').1 ?_
            rw [hts]
            exact (HE.out.2.1 s').2 (.inl hs')
           ·intro h
            have h1 := (Hwx.out ⟨s.toArray⟩).2 (by simpa [bl] using h)
            rw [hts] at h1
            rcases (HE.out.2.1 _).1 h1 with h2 | h2
            ·exact List.mem_map.2 ⟨_, h2, by simp [bl]⟩
            ·rw [HE.out.2.2.2.2] at h2; cases h2
          rw [Htk.out, ← wriS_done HSt.out hs0]
          exact HE.out.2.2.1 j t
         ·obtain ⟨la', s, lb', hleft, rfl, rfl, rfl⟩ := split_str hl
          have hnx : ∀ ty, (Instr.next (.pointer (some ⟨ri, 0, none⟩)) false ty).run Tryz.prog wr = .ok (.tuple #[.bool true, .string s, .bool true]) w' := fun _ => hrun
          have hent' : (Instr.entry (.pointer (some ⟨ri, 0, none⟩))).run Tryz.prog w' = .ok (.tuple #[.string s, .bool true]) w' := hent
          have hmap1 := range_ne h2 h1.map
          have hT' : TabAt w' base base T4 := h1.grown hg' hmap1 (fun e he => range_ne h2 (h1.sets e he))
          have hX' : Blk w' xb #[.string r.src, .string r.dst, .string r.nxt, .bool r.fin, .slice fa1 fl fc1, .slice na1 nl nc1] 103 := h4.grown hg' (fun e => range_blk h2 h4 (Option.some.inj e))
          have hlka := hT'.look a
          rw [h3] at hlka
          obtain ⟨w'', hput, hT5, hg5, hz5⟩ := hT'.put h3 (s ++ r.dst)
          have hst : s ∈ tsk := (h5 s).2 (.inr (by rw [hleft]; simp))
          have hsz := (writ_size HT.out Hall.out.2.2.1 ((Hwx.out s).1 (by rw [HI.out.2.2.2.2.1]; exact hst))).1
          rw [bl_length] at hsz
          have hdz := (Hall.out.2.2.1 _ H8.out.2.2.2.2).2
          have hdz' : r.dst.size ≤ 9 := by rw [← bl_length]; exact hdz
          have hadd : ∀ W, (Op.stringOp .add s r.dst).run Tryz.prog W = .ok (.string (s ++ r.dst)) W := fun W => by first | exact run_string_add W _ _ (by omega) (by omega) | exact run_string_add _ _ (by omega) (by omega)
          obtain ⟨z0', z1', z2', z3', z4', z5'⟩ := Hcb.out w' hX'
          have hbat := vAt_set hT' h3
          have HE := Lib.hid (And.intro h1 (And.intro h2 (And.intro h3 (And.intro h4 (And.intro h5 (And.intro h6 (And.intro h7 (And.intro hleft (And.intro hrg' (And.intro hg' (And.intro hs' (And.intro hX' (And.intro hT5 (And.intro hg5 (And.intro hz5 (And.intro hbat hT'))))))))))))))))
          clear hl h1 h2 h3 h4 h5 h6 h7 hleft hrun hrg' hg' hs' hent hmap1 hT' hX' hT5 hg5 hz5 hst hsz hdz hdz' hbat
          go_wp2_with fail
          obtain ⟨h1, h2, h3, h4, h5, h6, h7, hleft, hrg', hg', hs', hX', hT5, hg5, hz5, hbat, hT'⟩ := HE.out
          have hrg5 := hrg'.grown hg5 (fun e => HI.out.2.2.2.2.2 (Option.some.inj e)) (fun e => range_ne hrg' hbat.1 (Option.some.inj e).symm)
          have hlo : base ≤ ri := by have := HWI.out.2; have := HZ.out.1.map.lt; omega
          refine ⟨⟨putT T4 a (s ++ r.dst), sd ++ [s], la' ++ lb', hT5, by unfold strV at *; rw [List.map_append]; exact hrg5, by rw [vAt_put]; exact h3, hX'.grown hg5 (fun e => blk_ne_map hX' hbat.1 (Option.some.inj e)), fun s' => ?_, fun j t => ?_, (h7.grown hg' (by have := h7.size; have := Hbs.out; omega) (fun q hq => by cases hq; exact hlo)).grown hg5 (by have := h7.size; have := Hbs.out; omega) (fun q hq => by cases hq; exact hbat.2.1)⟩, ?_⟩
          ·rw [h5 s', hleft]
           simp only [List.mem_append, List.mem_cons, List.not_mem_nil, or_false]
           constructor
           ·rintro (h | h | h | h)
            ·exact .inl (.inl h)
            ·exact .inr (.inl h)
            ·exact .inl (.inr h)
            ·exact .inr (.inr h)
           ·rintro ((h | h) | h | h)
            ·exact .inl h
            ·exact .inr (.inr (.inl h))
            ·exact .inr (.inl h)
            ·exact .inr (.inr (.inr h))
          ·rw [tsAt_put h3, List.map_append, List.map_cons, List.map_nil, wriS_snoc, h6 j t]
           have e1 : j = a ∧ t = s ++ r.dst ↔ j = k + (rdL A.bls r.l.src).length ∧ bl t = bl s ++ r.l.dst := by
            have e2 : bl (s ++ r.dst) = bl s ++ bl r.dst := by simp [bl]
            have e3 : a = k + (rdL A.bls r.l.src).length := by rw [Ha.out, ← HX.out.2.2.2.2.2.1]; rfl
            rw [← e3]
            constructor
            ·rintro ⟨q1, rfl⟩; exact ⟨q1, e2⟩
            ·rintro ⟨q1, q2⟩; exact ⟨q1, bl_inj (q2.trans e2.symm)⟩
           rw [e1]
          ·rw [hrg5.leftN, h2.leftN, hleft]
           simp [strV]
    ·obtain rfl : i = R.list.length := by omega
     have hall : all.length = R.list.length := by rw [Hall.out.1, List.length_map]
     have HX := Lib.hid (And.intro hTab2 (And.intro hKx hbx))
     have hta : all.take R.list.length = all := List.take_of_length_le (by omega)
     have Hta := Lib.hid hta
     clear hTab2 hKx hbx hall hta
     go_wp2_with fail
     refine ⟨⟨k + 1, T2, hkl, by go_num, HX.out.1, fun j t => ?_, HX.out.2.2⟩, by simp [intOf]; omega⟩
     have h1 := HX.out.2.1 j t
     rw [Hta.out] at h1
     rw [← wriX_all hkl]
     exact h1
  ·obtain rfl : k = wd.length := by omega
   by_cases h200 : 200 < nk
   ·have d2 : decide ((nk : Int) > 200) = true := decide_eq_true (by omega)
    have d2' : decide ((200 : Int) < (nk : Int)) = true := decide_eq_true (by omega)
    go_wp2_with fail
    go_ret2
    exact ⟨_, [], 2, rfl, ⟨none, 0, rfl, fun h => by simp [strs] at h⟩, HbFr.out, .inr ⟨⟨Hv.out, Her.out⟩, .inl ⟨rfl, rfl⟩⟩⟩
   have d2 : decide ((nk : Int) > 200) = false := decide_eq_false (by omega)
   have d2' : decide ((200 : Int) < (nk : Int)) = false := decide_eq_false (by omega)
   have hwr : ∀ t, t ∈ tsAt T wd.length ↔ Writ A.bls all wd wd.length (bl t) := fun t => (HTab.out.2.1 wd.length t).trans (wriK_own HT.out Hall.out.2.1)
   have hsk := sorted_keys HTab.out.1 wd.length (fun s hs => by
    have := (writ_size HT.out Hall.out.2.2.1 ((hwr s).1 hs)).1
    rw [bl_length] at this
    unfold maxLen; omega) (by rw [Hnk.out.1]; omega)
   rw [Hnk.out.2] at hsk
   have HS := Lib.hid hsk
   have Hwr := Lib.hid hwr
   clear hsk hwr
   go_wp2_with fail
   refine ((callsIn_wide (n := 5)).1 (Tryz.maps_Keys_29 ovk wr)).mono ?_
   rintro e w3 ⟨rfl, rfl⟩
   go_wp2_with fail
   refine HS.out.mono ?_
   rintro e w4 ⟨a4, c4, ts, rfl, hrow4, hso, hmem, hb4⟩
   have H4 := Lib.hid (And.intro hrow4 (And.intro hso (And.intro hmem hb4)))
   clear hrow4 hso hmem hb4
   go_wp2_with fail
   go_ret2
   refine ⟨_, ts, 0, rfl, ⟨a4, c4, rfl, H4.out.1⟩, HbFr.out.trans (H4.out.2.2.2.mono HbFr.out.size), .inr ⟨⟨Hv.out, Her.out⟩, .inr ⟨rfl, H4.out.2.1, fun t => ?_⟩⟩⟩
   rw [H4.out.2.2.1 t, Hwr.out t, Hwd.out, Hall.out.1]
end Go.Proofs.YtabocamjaecaaaaGreatDoor
