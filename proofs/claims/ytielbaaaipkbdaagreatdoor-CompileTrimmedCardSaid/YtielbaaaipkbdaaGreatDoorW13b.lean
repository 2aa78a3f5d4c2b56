/- Walk of the reference's machine of rules (gazetteerref13.Compile). -/
import Derived.Test.YtielbaaaipkbdaaGreatDoorW13
import Derived.Laws.MakeOwn
import Derived.Test.YtielbaaaipkbdaaGreatDoorGA
import Derived.Maps.AppendAt
import Derived.Deep.DeepCutAuto
import Derived.Deep.CutBlock
import Derived.Laws.OwnMore
namespace Go.Proofs.YtielbaaaipkbdaaGreatDoor
open Go.RowKit Classical

theorem run_make_rowN {P : Program} (t e : TypeId) (i : TypeInfo) (z : Value) (ht : P.underlying t = some (.slice e)) (hi : P.info? e = some i) (hz : i.zero = some z)
    (kl kc : IntKind) (n c : Nat) (hnc : n ≤ c) (hbytes : i.bytes * c ≤ 281474976710656) (h63 : c ≤ 9223372036854775807) (w : World) :
    (Instr.makeSlice t (.int kl (n : Int)) (.int kc (c : Int))).run P w = .ok (.slice (some ⟨w.heap.size, 0, none⟩) n c) (w.alloc (.cells (madeCells z.cells (c * i.size)) e)) := by
  have hb : (i.bytes : Int) * (c : Int) ≤ 281474976710656 := by
    have h : ((i.bytes * c : Nat) : Int) ≤ 281474976710656 := by omega
    rwa [Int.natCast_mul] at h
  have hr := run_make (P := P) w t e i z ht hi hz kl kc n c (by omega) (by omega) hb (by omega)
  simp only [Int.toNat_natCast] at hr
  exact hr

def natsV (l : List Nat) : List Value := l.map fun n : Nat => Value.int .i64 (n : Int)
theorem natsV_append (a b : List Nat) : natsV (a ++ b) = natsV a ++ natsV b := by simp [natsV]
theorem natsV_get (l : List Nat) (i : Nat) (n : Nat) (h : l[i]? = some n) : (natsV l)[i]? = some (.int .i64 (n : Int)) := by simp [natsV, h]
theorem natsV_set (T : List Nat) (n k v : Nat) (hT : T.length = k) (hk : k < n) : (natsV (T ++ List.replicate (n - k) 0)).set k (.int .i64 (v : Int)) = natsV (T ++ [v] ++ List.replicate (n - (k + 1)) 0) := by
  obtain ⟨m, hm⟩ : ∃ m, n - k = m + 1 := ⟨n - k - 1, by omega⟩
  have hm2 : n - (k + 1) = m := by omega
  subst hT
  rw [hm, hm2, natsV_append, List.replicate_succ, List.set_append_right _ _ (by simp [natsV])]
  simp [natsV]
theorem rl_take (l : List Rul) (k : Nat) (h : k < l.length) : (l.map Rul.l).take (k + 1) = (l.map Rul.l).take k ++ [l[k].l] := by
  rw [List.take_add_one]; simp [h]

theorem madeCells_one (z : Value) (n : Nat) : madeCells #[z] n = Array.replicate n z := by
  apply Array.ext
  · simp [madeCells]
  · intro i h1 h2
    simp [madeCells, Nat.mod_one]

/-- The arcs of a rule before the j-th byte. -/
def ruleArcsTo (x : RulL) (base lead : Nat) (starts : List Nat) (j : Nat) : List Arc :=
  if j = 0 then [] else (starts.map fun s : Nat => arcAt x base lead 0 (s : Int)) ++ (List.range (j - 1)).map fun j : Nat => arcAt x base lead (j + 1) ((base : Int) + (j : Int))

theorem ruleArcsTo_le (x : RulL) (b l : Nat) (s : List Nat) (j : Nat) : (ruleArcsTo x b l s j).length ≤ s.length + j := by
  unfold ruleArcsTo
  split
  · simp
  · simp

theorem ruleArcsTo_snoc (x : RulL) (b l : Nat) (s : List Nat) (p : Nat) : ruleArcsTo x b l s (p + 1 + 1) = ruleArcsTo x b l s (p + 1) ++ [arcAt x b l (p + 1) ((b : Int) + (p : Int))] := by
  simp only [ruleArcsTo, Nat.succ_ne_zero, if_false, Nat.add_sub_cancel, List.range_succ, List.map_append, List.append_assoc]
  simp
theorem ruleArcsTo_one (x : RulL) (b l : Nat) (s : List Nat) : ruleArcsTo x b l s 1 = s.map fun s : Nat => arcAt x b l 0 (s : Int) := by simp [ruleArcsTo]
theorem ruleArcsTo_all (x : RulL) (b l : Nat) (s : List Nat) (h : 1 ≤ x.n) : ruleArcsTo x b l s x.n = ruleArcs x b l s := by
  unfold ruleArcsTo ruleArcs
  rw [if_neg (by omega)]
theorem map_take_succ {α β : Type} (l : List α) (f : α → β) (k : Nat) (h : k < l.length) : (l.take (k + 1)).map f = (l.take k).map f ++ [f l[k]] := by
  rw [List.take_add_one, List.getElem?_eq_getElem h, List.map_append]; rfl

theorem RowAt.set {w : World} {B : Nat} {a : Option Addr} {xs : List Value} (h : RowAt w B a xs) {p : Addr} (hne : ∀ b o, a = some ⟨b, o, none⟩ → b ≠ p.block) (u : Value) : RowAt (w.setCell p u) B a xs := fun hn => by
  obtain ⟨b, off, e, hb, hc⟩ := h hn
  exact ⟨b, off, e, hb, fun i x hi => (World.cell?_setCell_other w p ⟨b, off + i, none⟩ u (fun e2 => hne b off e (by rw [e2]))).trans (hc i x hi)⟩

theorem own_len {w : World} {base : Nat} {e : TypeId} {size n : Nat} {v : Value} {xs : List Value} (h : w.ownsRow base e size v n xs) : n ≤ maxLen := by
  rcases h.2 with ⟨_, rfl⟩ | ⟨g, cap, cur, _, _, _, h1, h2, _⟩
  · exact Nat.zero_le _
  · exact Nat.le_trans h1 h2
theorem readGo_acc (L : List (List UInt8)) : ∀ (f : Nat) (t : List UInt8) (o : Nat) (acc : List Int), (readGo L f t o acc).err = 0 → acc.length ≤ (readGo L f t o acc).letters.length := by
  intro f
  induction f with
  | zero =>
    intro t o acc h
    rw [readGo] at h ⊢
    split
    · exact Nat.le_refl _
    · rename_i ht
      rw [if_neg ht] at h
      split at h <;> simp at h
  | succ f ih =>
    intro t o acc h
    rw [readGo] at h ⊢
    split
    · exact Nat.le_refl _
    · rename_i ht
      rw [if_neg ht] at h
      split at h
      · simp at h
      · rename_i k hk
        have := ih _ _ _ h
        rw [List.length_append] at this
        simp at this ⊢
        omega
theorem readL_ne {L : List (List UInt8)} {t : List UInt8} (ht : t ≠ []) (h : (readL L t).err = 0) : (readL L t).letters ≠ [] := by
  rw [readL, if_neg ht] at h ⊢
  rw [readGo, if_neg ht] at h ⊢
  split at h
  · simp at h
  · rename_i k hk
    have := readGo_acc _ _ _ _ _ h
    intro e
    rw [e] at this
    simp at this

theorem rul_n {x : Rul} (h : x.ok) : x.l.n ≤ 9 ∧ 1 ≤ x.l.n := by
  have h1 := h.1.2
  have h2 := h.2.1.2
  unfold RulL.n
  rw [show x.l.src = bl x.src from rfl, show x.l.dst = bl x.dst from rfl, bl_length, bl_length]
  omega

theorem loop5_step {wr w8 : World} {bL bk kb g n m : Nat} {av v' sv : Value} {xs ys : List Value} {xc : Array Value} {f a b c : Value} (hoa : wr.ownsRow bL 58 4 av n xs) (hos : wr.ownsRow bk 3 1 sv m ys)
    (hx : Blk wr kb xc 44) (hg : Blk wr g #[f, a, b, c] 58) (hne : av.ownBlock ≠ some g) (hk : kb ≠ g) (v : Value) (O : Obj)
    (hgr : ((wr.setCell ⟨g, 0, none⟩ v).alloc O).grownBy w8 av.ownBlock) (hloc : v'.ownBlock = av.ownBlock ∨ v'.ownBlock = some (wr.heap.size + 1)) :
    w8.ownsRow bk 3 1 sv m ys ∧ Blk w8 kb xc 44 ∧ Blk w8 g #[v, a, b, c] 58 ∧ v'.ownBlock ≠ some g := by
  have hoa4 := (own_setCell hoa (p := ⟨g, 0, none⟩) hne v).alloc O
  have hos4 := (own_setCell hos (p := ⟨g, 0, none⟩) (fun e => hg.own_ne hos (by decide) e) v).alloc O
  have hx4 := (hx.far (p := ⟨g, 0, none⟩) hk v).alloc O
  have hg4 := (hg.set_ 0 v).alloc O
  refine ⟨own_kept_other hos4 hoa4 (by decide) hgr, hx4.grown hgr (fun e => hx4.own_ne hoa4 (by decide) e.symm), hg4.grown hgr (fun e => hne e.symm), ?_⟩
  have hlt := hg.lt
  rcases hloc with e | e
  · rw [e]; exact hne
  · rw [e]
    simp
    omega

structure CompileOf (R : Ruls) (A : Alph) (M : Mach) : Prop where
  states : M.states = compileStates (R.list.map Rul.l)
  start : M.start = 0
  final : M.final = [1, 2]
  inc : Increasing M.arcs
  mem : ∀ y, y ∈ M.arcs ↔ y ∈ compileArcs A.bls (R.list.map Rul.l)
def CompilePost (ok : Prop) (R : Ruls) (A : Alph) (w : World) (e : Ending) (w' : World) : Prop :=
  ∃ v M err, e = .returned (.tuple #[v, .int .i64 err]) ∧ MachAt w' w'.heap.size v M ∧ Below w.heap.size w w' ∧ (¬ ok → err = 1 ∧ M = ⟨0, 0, [], []⟩) ∧ (ok → err = 0 ∧ CompileOf R A M)

set_option maxRecDepth 100000 in
set_option maxHeartbeats 4000000 in
theorem Compile13_any (R : Ruls) (A B : Alph) (v va vb : Value) (w : World) (h : RulsAt w w.heap.size v R) (ha : AlphAt w w.heap.size va A) (hb : AlphAt w w.heap.size vb B) :
    Calls Tryz.prog 13 #[v, va, vb] w (CompilePost (Valid11 R A B) R A w) := by
  have hR := h
  have hA := ha
  have hB := hb
  obtain ⟨la, lc, rfl, hs1, hs2, hln, hlr, hl⟩ := h
  obtain ⟨fa, fc, ga, gc, rfl, hn, hl1, hs3, hls, hfl, hfs⟩ := ha
  obtain ⟨fa2, fc2, ga2, gc2, rfl, hn2, hl2, hs4, hls2, hfl2, hfs2⟩ := hb
  obtain ⟨i0, hi, hz0, hz1, hz2⟩ := info_parts info_int
  unfold maxLen at hln
  go_enter Tryz.func13, Tryz.ntmps13
  go_wp2_with fail
  generalize hW0 : ((((w.alloc _).alloc _).alloc _).alloc _) = W0
  have hw0 : Below w.heap.size w W0 := by rw [← hW0]; exact ((((Below.refl _ _).alloc (Nat.le_refl _) _).alloc (by simp) _).alloc (by simp; omega) _).alloc (by simp; omega) _
  have hsz : W0.heap.size = w.heap.size + 4 := by rw [← hW0]; simp
  have hbr : Box W0 w.heap.size [Value.string R.src, .string R.dst, .slice la R.list.length lc] := by
    rw [← hW0]; exact (((Box.new _ _ _).alloc (by simp) _).alloc (by simp; omega) _).alloc (by simp; omega) _
  have hba : Box W0 (w.heap.size + 1) [Value.string A.name, .slice fa A.letters.length fc, .slice ga A.small.length gc] := by
    rw [← hW0]; have := (Box.new (w.alloc (.cells #[Value.string R.src, .string R.dst, .slice la R.list.length lc] 24)) [Value.string A.name, .slice fa A.letters.length fc, .slice ga A.small.length gc] 28)
    simp at this; exact (this.alloc (by simp) _).alloc (by simp) _
  have hbm : W0.heap[w.heap.size + 3]? = some (.cells #[.int .i64 0, .int .i64 0, .slice none 0 0, .slice none 0 0] 33 (0, 0)) := by
    rw [← hW0, show w.heap.size + 3 = (((w.alloc (.cells #[Value.string R.src, .string R.dst, .slice la R.list.length lc] 24)).alloc (.cells #[Value.string A.name, .slice fa A.letters.length fc, .slice ga A.small.length gc] 28)).alloc (.cells #[Value.string B.name, .slice fa2 B.letters.length fc2, .slice ga2 B.small.length gc2] 28)).heap.size from by simp]
    exact heap_alloc_new _ _
  clear hW0
  have Hk := Lib.hid (fun wr (hbw : Below W0.heap.size W0 wr) => And.intro (hbr.below hbw (by omega)).c3 (And.intro (hba.below hbw (by omega)).c3 ((hbw.block (w.heap.size + 3) (by omega)).trans hbm)))
  clear hbr hba hbm
  refine (valid11_any R A B _ _ _ _ ((hR.below hw0 (Nat.le_refl _)).more hw0.size) ((hA.below hw0 (Nat.le_refl _)).more hw0.size) ((hB.below hw0 (Nat.le_refl _)).more hw0.size)).mono ?_
  rintro e w1 ⟨rfl, hb1⟩
  have hb1' := hw0.trans (hb1.mono hw0.size)
  obtain ⟨⟨r0, r1, r2⟩, ⟨a0, a1, a2⟩, hm⟩ := Hk.out w1 hb1
  have m0 : w1.cell? ⟨w.heap.size + 3, 0, none⟩ = some (.int .i64 0) := cell_of_row _ _ 0 _ _ _ hm
  have m1 : w1.cell? ⟨w.heap.size + 3, 1, none⟩ = some (.int .i64 0) := cell_of_row _ _ 1 _ _ _ hm
  have m2 : w1.cell? ⟨w.heap.size + 3, 2, none⟩ = some (.slice none 0 0) := cell_of_row _ _ 2 _ _ _ hm
  have m3 : w1.cell? ⟨w.heap.size + 3, 3, none⟩ = some (.slice none 0 0) := cell_of_row _ _ 3 _ _ _ hm
  have f0 : ∀ j, w1.frozen? ⟨w.heap.size + 3, j, none⟩ = false := fun j => by simp [World.frozen?, hm]
  by_cases hv : Valid11 R A B
  · rw [decide_eq_true hv]
    have hf := hv.1
    have hn1 := hf.2.2.1
    have hn80 := hf.2.2.2.1
    have hmk := fun W => run_make_rowN (P := Tryz.prog) 26 3 i0 (.int .i64 0) Tryz.underlying26 hi hz0 .i64 .i64 R.list.length R.list.length (Nat.le_refl _) (by rw [hz2]; omega) (by omega) W
    obtain ⟨b, off, rfl, hb, hc⟩ := hl.ruls (by omega)
    have hcr := Lib.hid (fun wr (hbw : Below w.heap.size w wr) i (hi : i < R.list.length) =>
      (And.intro ((hbw.cell (p := ⟨b, off + i * 4, none⟩) hb).trans (hc i hi).1) (And.intro ((hbw.cell (p := ⟨b, off + i * 4 + 1, none⟩) hb).trans (hc i hi).2.1)
        (And.intro ((hbw.cell (p := ⟨b, off + i * 4 + 2, none⟩) hb).trans (hc i hi).2.2.1) ((hbw.cell (p := ⟨b, off + i * 4 + 3, none⟩) hb).trans (hc i hi).2.2.2)))))
    have HV := Lib.hid hv
    have Hf := Lib.hid hf
    clear hc hv hf m0 m1 m2 m3 f0 hm a0 a1 a2
    go_wp2_with fail
    generalize hW2 : (w1.alloc _) = W2
    have hb2 : Below W0.heap.size W0 W2 := by rw [← hW2]; exact hb1.alloc hb1.size _
    have hown : W2.ownsRow W0.heap.size 3 1 (.slice (some ⟨w1.heap.size, 0, none⟩) R.list.length R.list.length) R.list.length (natsV (leadsFrom 3 ((R.list.map Rul.l).take 0) ++ List.replicate (R.list.length - 0) 0)) := by
      have := World.ownsRow_lit (base := W0.heap.size) (e := 3) (size := 1) w1 (madeCells #[.int .i64 0] (R.list.length * 1)) R.list.length hb1.size (by unfold maxLen; omega) (by simp [madeCells])
      rw [← hW2]
      have e : (madeCells #[.int .i64 0] (R.list.length * 1)).toList = natsV (leadsFrom 3 ((R.list.map Rul.l).take 0) ++ List.replicate (R.list.length - 0) 0) := by
        rw [madeCells_one]; simp [leadsFrom, natsV]
      rw [e] at this
      simpa only [Nat.mul_one] using this
    have Hown := Lib.hid hown
    clear hmk hW2 hown r0 r1 r2
    go_loopw [9, 10] (fun st i wr => ∃ k : Nat, k ≤ R.list.length ∧ i = .int .i64 k ∧ st = .int .i64 (statesFrom 3 ((R.list.map Rul.l).take k) : Nat) ∧
      wr.ownsRow W0.heap.size 3 1 (.slice (some ⟨w1.heap.size, 0, none⟩) R.list.length R.list.length) R.list.length (natsV (leadsFrom 3 ((R.list.map Rul.l).take k) ++ List.replicate (R.list.length - k) 0)) ∧ Below W0.heap.size W0 wr) (fun _ i _ => R.list.length - (intOf i).toNat)
    case atStart => exact ⟨0, Nat.zero_le _, rfl, rfl, Hown.out, hb2⟩
    case round =>
      obtain ⟨k, hk, rfl, rfl, hown, hbw⟩ := hrel
      have Hown2 := Lib.hid hown
      clear hown
      have hwr := hw0.trans (hbw.mono hw0.size)
      obtain ⟨⟨r0, r1, r2⟩, ⟨a0, a1, a2⟩, hm⟩ := Hk.out wr hbw
      clear hm
      by_cases hkl : k < R.list.length
      · obtain ⟨k0, k1, k2, k3⟩ := hcr.out wr hwr k hkl
        have hgl : W0.heap.size ≤ w1.heap.size := (Hown2.out.lt w1.heap.size rfl).1
        have hTl : (leadsFrom 3 ((R.list.map Rul.l).take k)).length = k := by rw [leadsFrom_length, List.length_take, List.length_map]; omega
        have z0 : wr.cell? ⟨w1.heap.size, k, none⟩ = some (.int .i64 0) := by
          rw [Hown2.out.cellAt k (by omega)]
          refine natsV_get _ _ 0 ?_
          rw [List.getElem?_append_right (by omega), hTl, Nat.sub_self, List.getElem?_replicate, if_pos (by omega)]
        have f0 := Hown2.out.frozenAt k
        have Hs1 := Lib.hid (fun (u : Value) => (Hown2.out.stored k u).1)
        have Hset := Lib.hid (fun v => natsV_set (leadsFrom 3 ((R.list.map Rul.l).take k)) R.list.length k v hTl hkl)
        have hst := statesFrom_le 3 ((R.list.map Rul.l).take k)
        have hst2 : statesFrom 3 ((R.list.map Rul.l).take k) ≤ 100 := by rw [List.length_take, List.length_map] at hst; omega
        generalize hstv : statesFrom 3 ((R.list.map Rul.l).take k) = st at *
        have Hst := Lib.hid hstv
        clear hTl hst hstv
        by_cases hfin : R.list[k].fin = true
        · by_cases hnx : bl R.list[k].nxt = []
          · have e1 := nil_yes hnx
            have E := Lib.hid (show R.list[k].l.fin = true ∧ R.list[k].l.nxt = [] from ⟨hfin, hnx⟩)
            clear hnx
            go_wp2
            refine ⟨⟨k + 1, by omega, by go_num, ?_, ?_, (hbw.setCell (p := ⟨w1.heap.size, k, none⟩) hgl _).setCell (p := ⟨w1.heap.size, k, none⟩) hgl _⟩, by simp [intOf]; omega⟩
            · rw [rl_take _ _ hkl, statesFrom_snoc, if_pos E.out.2, Hst.out]
            · have := (((Hs1.out (.int .i64 1))).stored k (.int .i64 2)).1
              rw [List.set_set] at this
              have h3 := Hset.out 2
              rw [rl_take _ _ hkl, leadsFrom_snoc, if_pos E.out.2, if_pos E.out.1]
              exact h3 ▸ this
          · exact absurd ⟨hfin, hnx⟩ (Hf.out.2.2.2.2.1 _ (List.getElem_mem hkl)).2.2.2
        · have hfin' : R.list[k].fin = false := by simpa using hfin
          clear hfin
          by_cases hnx : bl R.list[k].nxt = []
          · have e1 := nil_yes hnx
            have E := Lib.hid (show R.list[k].l.fin = false ∧ R.list[k].l.nxt = [] from ⟨hfin', hnx⟩)
            clear hnx
            go_wp2
            refine ⟨⟨k + 1, by omega, by go_num, ?_, ?_, hbw.setCell (p := ⟨w1.heap.size, k, none⟩) hgl _⟩, by simp [intOf]; omega⟩
            · rw [rl_take _ _ hkl, statesFrom_snoc, if_pos E.out.2, Hst.out]
            · have := Hs1.out (.int .i64 1)
              have h3 := Hset.out 1
              rw [rl_take _ _ hkl, leadsFrom_snoc, if_pos E.out.2, E.out.1]
              exact h3 ▸ this
          · have e1 := empty_no hnx
            have E := Lib.hid (show R.list[k].l.nxt ≠ [] from hnx)
            clear hnx
            go_wp2
            refine ⟨⟨k + 1, by omega, by go_num, ?_, ?_, (hbw.setCell (p := ⟨w1.heap.size, k, none⟩) hgl _).setCell (p := ⟨w1.heap.size, k, none⟩) hgl _⟩, by simp [intOf]; omega⟩
            · rw [rl_take _ _ hkl, statesFrom_snoc, if_neg E.out, Hst.out]; go_num
            · have := (((Hs1.out (.int .i64 1))).stored k (.int .i64 (st : Nat))).1
              rw [List.set_set] at this
              have h3 := Hset.out st
              rw [rl_take _ _ hkl, leadsFrom_snoc, if_neg E.out, Hst.out]
              exact h3 ▸ this
      · obtain rfl : k = R.list.length := by omega
        have hLD := Hown2.out
        have hlen : (R.list.map Rul.l).length = R.list.length := by simp
        rw [← hlen, leadsFrom_all, hlen, Nat.sub_self, List.replicate_zero, List.append_nil] at hLD
        have hS0 := statesFrom_le 3 ((R.list.map Rul.l))
        have est : statesFrom 3 ((R.list.map Rul.l).take R.list.length) = statesFrom 3 (R.list.map Rul.l) := by rw [← hlen, List.take_length]
        rw [est]
        generalize hRL : R.list.map Rul.l = RL at *
        generalize hS0e : statesFrom 3 RL = S0 at *
        have HRL := Lib.hid hRL
        have HS0 := Lib.hid hS0e
        obtain ⟨LD, hLDe⟩ : ∃ LD, LD = leadsFrom 3 RL := ⟨_, rfl⟩
        rw [← hLDe] at hLD
        have HLD := Lib.hid hLD
        have HLDe := Lib.hid hLDe
        have Hlen := Lib.hid hlen
        clear hRL hS0e hLD hLDe est hlen
        obtain ⟨wL, rfl⟩ : ∃ wL : World, wL = wr := ⟨_, rfl⟩
        have Hn9' : Hid (∀ y ∈ RL, y.n ≤ 9) := by
          intro y hy
          rw [← HRL.out] at hy
          obtain ⟨z, hz, rfl⟩ := List.mem_map.1 hy
          exact (rul_n (Hf.out.2.2.2.2.1 z hz)).1
        go_wp2_with fail
        go_loopw [9, 11, 12] (fun st av i wr => ∃ k : Nat, k ≤ R.list.length ∧ i = .int .i64 k ∧ st = .int .i64 (endFrom S0 (RL.take k) : Nat) ∧
          wr.ownsRow wL.heap.size 58 4 av (arcsFrom A.bls RL LD S0 (RL.take k) (LD.take k)).length (flat (arcsFrom A.bls RL LD S0 (RL.take k) (LD.take k))) ∧ Below wL.heap.size wL wr) (fun _ _ i _ => R.list.length - (intOf i).toNat)
        case atStart => exact ⟨0, Nat.zero_le _, rfl, rfl, World.ownsRow_nil _ _ _ _, Below.refl _ _⟩
        case round =>
          obtain ⟨k, hk, rfl, rfl, howna, hbx⟩ := hrel
          have Ha := Lib.hid howna
          clear howna
          have hbx0 := hbw.trans (hbx.mono hbw.size)
          have hwx := hw0.trans (hbx0.mono hw0.size)
          obtain ⟨⟨r0, r1, r2⟩, ⟨a0, a1, a2⟩, hm⟩ := Hk.out wr hbx0
          clear hm
          by_cases hkl : k < R.list.length
          · obtain ⟨k0, k1, k2, k3⟩ := hcr.out wr hwx k hkl
            obtain ⟨x, hxe⟩ : ∃ x, x = R.list[k] := ⟨_, rfl⟩
            rw [← hxe] at k0 k1 k2 k3
            have Hx := Lib.hid hxe
            clear hxe
            go_upto_region 20 with (fail)
            have hsx := hbx.size
            obtain ⟨W3, hW3⟩ : ∃ W3 : World, W3 = (wr.alloc (.cells #[.string x.src, .string x.dst, .string x.nxt, .bool x.fin] 44)).alloc (.cells #[.int .i64 0, .int .i64 1] 3) := ⟨_, rfl⟩
            rw [← hW3]
            have hb3 : Below wr.heap.size wr W3 := by rw [hW3]; exact ((Below.refl _ _).alloc (Nat.le_refl _) _).alloc (by simp) _
            have hsz3 : W3.heap.size = wr.heap.size + 2 := by rw [hW3]; simp
            have hxb : Blk W3 wr.heap.size #[.string x.src, .string x.dst, .string x.nxt, .bool x.fin] 44 := by rw [hW3]; exact (Blk.new _ _ _).alloc _
            have hst0 : W3.ownsRow wr.heap.size 3 1 (.slice (some ⟨wr.heap.size + 1, 0, none⟩) 2 2) 2 (natsV (0 :: 1 :: startsIn A.bls x.l (RL.take 0) (LD.take 0))) := by
              have := World.ownsRow_lit (base := wr.heap.size) (e := 3) (size := 1) (wr.alloc (.cells #[.string x.src, .string x.dst, .string x.nxt, .bool x.fin] 44)) #[.int .i64 0, .int .i64 1] 2 (by simp) (by unfold maxLen; omega) rfl
              rw [hW3]
              simpa [startsIn, natsV] using this
            have Hst0 := Lib.hid hst0
            have Hxb := Lib.hid hxb
            clear hst0 hxb hW3 k0 k1 k2 k3 r0 r1 r2 a0 a1 a2
            obtain ⟨wk, rfl⟩ : ∃ wk : World, wk = wr := ⟨_, rfl⟩
            have hvx := hlr _ (List.getElem_mem hkl)
            have hlx := HV.out.2.2.2.2.2 _ (List.getElem_mem hkl)
            have hokx := Hf.out.2.2.2.2.1 _ (List.getElem_mem hkl)
            rw [← Hx.out] at hvx hlx hokx
            have hoA := HV.out.2.1.ok
            have hsne : bl x.src ≠ [] := fun e => by
              have h1 := hokx.1.2.1
              have h2 := bl_length x.src
              rw [e] at h2; simp at h2; omega
            have hnex : (readL A.bls (bl x.src)).letters ≠ [] := readL_ne hsne (hlx.1.elim (fun h => absurd h hsne) (fun h => h.1))
            have HX := Lib.hid (And.intro hlx hokx)
            clear hlx hokx
            go_wp2_with fail
            go_loopw [14, 15] (fun sv i wx => ∃ (m : Nat) (sts : List Nat), m ≤ R.list.length ∧ i = .int .i64 m ∧ sts = 0 :: 1 :: startsIn A.bls x.l (RL.take m) (LD.take m) ∧ wx.ownsRow wk.heap.size 3 1 sv sts.length (natsV sts) ∧
              Blk wx wk.heap.size #[.string x.src, .string x.dst, .string x.nxt, .bool x.fin] 44 ∧ Below wk.heap.size wk wx) (fun _ i _ => R.list.length - (intOf i).toNat)
            case atStart => exact ⟨0, _, Nat.zero_le _, rfl, rfl, Hst0.out, Hxb.out, hb3⟩
            case round =>
              obtain ⟨m, sts, hm, rfl, hsts, hows, hxw, hby⟩ := hrel
              have Hsts := Lib.hid hsts
              have Hows := Lib.hid hows
              have Hxw := Lib.hid hxw
              clear hsts hows hxw
              have hby0 := hbx0.trans (hby.mono hbx0.size)
              have hwy := hw0.trans (hby0.mono hw0.size)
              obtain ⟨⟨r0, r1, r2⟩, ⟨a0, a1, a2⟩, hm'⟩ := Hk.out wr hby0
              clear hm'
              have x0 : wr.cell? ⟨wk.heap.size, 0, none⟩ = some (.string x.src) := Hxw.out.cell 0
              have x1 : wr.cell? ⟨wk.heap.size, 1, none⟩ = some (.string x.dst) := Hxw.out.cell 1
              by_cases hml : m < R.list.length
              · have x2 : wr.cell? ⟨wk.heap.size, 2, none⟩ = some (.string x.nxt) := Hxw.out.cell 2
                have x3 : wr.cell? ⟨wk.heap.size, 3, none⟩ = some (.bool x.fin) := Hxw.out.cell 3
                obtain ⟨o0, o1, o2, o3⟩ := hcr.out wr hwy m hml
                have hmrl : RL.take (m + 1) = RL.take m ++ [R.list[m].l] := by rw [← HRL.out]; exact rl_take _ _ hml
                have hLDl : LD.length = R.list.length := by rw [HLDe.out, leadsFrom_length, Hlen.out]
                have hmld : LD.take (m + 1) = LD.take m ++ [LD[m]'(by omega)] := by rw [List.take_add_one, List.getElem?_eq_getElem (by omega)]; rfl
                have hstep : startsIn A.bls x.l (RL.take (m + 1)) (LD.take (m + 1)) = startsIn A.bls x.l (RL.take m) (LD.take m) ++ if begB A.bls x.l R.list[m].l then [LD[m]'(by omega)] else [] := by
                  rw [hmrl, hmld, startsIn_snoc]
                  rw [List.length_take, List.length_take, hLDl, Hlen.out]
                have Hstep := Lib.hid hstep
                clear hmrl hmld hstep
                have hstl : (startsIn A.bls x.l (RL.take m) (LD.take m)).length ≤ 80 := by have := startsIn_length A.bls x.l (RL.take m) (LD.take m); rw [List.length_take] at this; omega
                have Hstl := Lib.hid hstl
                clear hstl
                by_cases hnx : bl R.list[m].nxt = []
                · have e1 := nil_yes hnx
                  have e2 : R.list[m].nxt.toList.isEmpty = true := by rw [e1]; rfl
                  have hbeg : begB A.bls x.l R.list[m].l = false := by
                    unfold begB
                    rw [show R.list[m].l.nxt = [] from hnx]; rfl
                  have Hb := Lib.hid hbeg
                  clear hnx hbeg
                  go_wp2_with fail
                  go_quiet (fail)
                  go_wp2
                  refine ⟨⟨m + 1, sts, by omega, by go_num, ?_, Hows.out, Hxw.out, below_drewN hby _⟩, by simp [intOf]; omega⟩
                  rw [Hstep.out, Hb.out, Hsts.out]; simp
                · have e1 := empty_no hnx
                  clear hnx
                  go_wp2_with fail
                  refine wp_region_still_tail 15 (by kernel_rfl) (by kernel_rfl) ?_
                  simp only [List.take_succ_cons, List.take_zero, List.drop_succ_cons, List.drop_zero]
                  repeat still_step
                  refine wpStill_nil ?_
                  change wpList _ _ _ _ _ wr.drew
                  have hvm := hlr _ (List.getElem_mem hml)
                  go_wp2_with fail
                  refine (begins13_any x R.list[m] A hoA hvx hvm hnex _ _ ((hA.below hwy.drew (Nat.le_refl _)).more hwy.size)).mono ?_
                  rintro e w5 ⟨rfl, hb5⟩
                  have hby5 := hby.drew.trans (hb5.mono hby.size)
                  have Hxw5 := Lib.hid (Blk.below (w := wr.drew) Hxw.out hb5 Hxw.out.lt)
                  have Hows5 := Lib.hid (own_below (a := wr.drew) Hows.out hb5)
                  cases hbg : begB A.bls x.l R.list[m].l with
                  | false =>
                    have Hb := Lib.hid hbg
                    clear hbg
                    go_wp2
                    refine ⟨⟨m + 1, sts, by omega, by go_num, ?_, Hows5.out, Hxw5.out, hby5⟩, by simp [intOf]; omega⟩
                    rw [Hstep.out, Hb.out, Hsts.out]; simp
                  | true =>
                    have Hb := Lib.hid hbg
                    clear hbg
                    have hld : w5.cell? ⟨w1.heap.size, m, none⟩ = some (.int .i64 (LD[m]'(by omega) : Nat)) := by
                      have hL := HLD.out
                      have hlt := (hL.lt w1.heap.size rfl).2
                      rw [(hbx.trans (hby5.mono hsx)).cell (p := ⟨w1.heap.size, m, none⟩) hlt, hL.cellAt m (by omega)]
                      exact natsV_get _ _ _ (List.getElem?_eq_getElem _)
                    have hsl : sts.length ≤ 82 := by have := Hstl.out; rw [Hsts.out]; simp; omega
                    obtain ⟨sa, sc, rfl, _⟩ := RowAt.of_own Hows5.out
                    go_wp2_with (at_builtin; refine wpList_append_own _ rfl _ _ 26 rfl wk.heap.size 3 i0 (.int .i64 0) 1 8 Tryz.underlying26 hi hz0 hz1 hz2 rfl (by decide) _ _ _ rfl (Hows5.out.alloc _) ⟨w5.heap.size, 0, none⟩ 1 1 [.int .i64 (LD[m]'(by omega) : Nat)] rfl rfl ?c1 ?c2 ?c3 ?c4 ?c5 ?_)
                    case c1 => exact cell_one_new _ _ _
                    case c2 => simp [Value.oneCell']
                    case c3 => unfold maxLen; omega
                    case c4 => omega
                    case c5 => have := hby5.size; simp; omega
                    intro v' w6 hown6 hgrow6 _
                    have Hn := Lib.hid hown6
                    have hxw6 := (Hxw5.out.alloc (.cells #[.int .i64 (LD[m]'(by omega) : Nat)] 3)).grown hgrow6 (fun e => (Hxw5.out).own_ne Hows5.out (by decide) e.symm)
                    have Hx6 := Lib.hid hxw6
                    have hb6 : Below wk.heap.size wk w6 := (hby5.alloc hby5.size _).grown hgrow6 (by have := hby5.size; simp; omega) (fun k hk => (Hows5.out.lt k hk).1)
                    clear hown6 hgrow6 hxw6
                    go_wp2
                    refine ⟨⟨m + 1, sts ++ [LD[m]'(by omega)], by omega, by go_num, ?_, ?_, Hx6.out, hb6⟩, by simp [intOf]; omega⟩
                    · rw [Hstep.out, Hb.out, Hsts.out]; simp
                    · rw [natsV_append, List.length_append]; exact Hn.out
              · obtain ⟨wm, rfl⟩ : ∃ wm : World, wm = wr := ⟨_, rfl⟩
                go_upto_region 25 with (fail)
                go_cut [16] (fun c wx => c = .int .i64 (x.l.n : Nat) ∧ wm = wx)
                case first =>
                  have hmx : x.l.n = max x.src.size x.dst.size := by unfold RulL.n; rw [show x.l.src = bl x.src from rfl, show x.l.dst = bl x.dst from rfl, bl_length, bl_length]
                  have Hmx := Lib.hid hmx
                  clear hmx
                  go_wp2_with fail
                  all_goals go_meet
                  all_goals exact ⟨by rw [Hmx.out]; congr 1; omega, rfl⟩
                case rest =>
                  obtain ⟨rfl, rfl⟩ := hcut
                  have eall : startsIn A.bls x.l (RL.take m) (LD.take m) = startsIn A.bls x.l RL LD := by
                    rw [List.take_of_length_le (by rw [Hlen.out]; omega), List.take_of_length_le (by rw [HLDe.out, leadsFrom_length, Hlen.out]; omega)]
                  have hsts' := Hsts.out
                  rw [eall] at hsts'
                  have Hst2 := Lib.hid hsts'
                  clear hsts' eall
                  have hn9 : x.l.n ≤ 9 ∧ 1 ≤ x.l.n := rul_n (by rw [Hx.out]; exact Hf.out.2.2.2.2.1 _ (List.getElem_mem hkl))
                  have Hn9 := Hn9'
                  obtain ⟨j0, hj, hj0, hj1, hj2⟩ := info_parts info_arc
                  clear x0 x1 r0 r1 r2 a0 a1 a2
                  go_wp2_with fail
                  go_loopw [11, 17] (fun av j wx => ∃ (q : Nat) (ars : List Arc), q ≤ x.l.n ∧ j = .int .i64 q ∧ ars = arcsFrom A.bls RL LD S0 (RL.take k) (LD.take k) ++ ruleArcsTo x.l (endFrom S0 (RL.take k)) (LD[k]?.getD 0) sts q ∧
                    wx.ownsRow wL.heap.size 58 4 av ars.length (flat ars) ∧ wx.ownsRow wk.heap.size 3 1 u14 sts.length (natsV sts) ∧
                    Blk wx wk.heap.size #[.string x.src, .string x.dst, .string x.nxt, .bool x.fin] 44 ∧ Below wL.heap.size wL wx) (fun _ j _ => x.l.n - (intOf j).toNat)
                  case atStart => exact ⟨0, _, Nat.zero_le _, rfl, by rw [ruleArcsTo, if_pos rfl, List.append_nil], own_below Ha.out hby, Hows.out, Hxw.out, hbx.trans (hby.mono hsx)⟩
                  case round =>
                    obtain ⟨q, ars, hq, rfl, hars, hoa, hos, hxq, hbq⟩ := hrel
                    have Hars := Lib.hid hars
                    have Hoa := Lib.hid hoa
                    have Hos := Lib.hid hos
                    have Hxq := Lib.hid hxq
                    clear hars hoa hos hxq
                    have hbq0 := hbw.trans (hbq.mono hbw.size)
                    have hwq := hw0.trans (hbq0.mono hw0.size)
                    have x0 : wr.cell? ⟨wk.heap.size, 0, none⟩ = some (.string x.src) := Hxq.out.cell 0
                    have x1 : wr.cell? ⟨wk.heap.size, 1, none⟩ = some (.string x.dst) := Hxq.out.cell 1
                    have hend : endFrom S0 (RL.take k) ≤ 1000 := by
                      have h1 := endFrom_le S0 (RL.take k) (fun y hy => Hn9.out y (List.mem_of_mem_take hy))
                      have h2 : (RL.take k).length ≤ 80 := by rw [List.length_take, Hlen.out]; omega
                      have h3 := Hlen.out
                      omega
                    by_cases hqn : q < x.l.n
                    · have hw1 : IntKind.i64.wrap ((endFrom S0 (RL.take k) : Nat) + (q : Int)) = (endFrom S0 (RL.take k) : Nat) + (q : Int) := IntWalk.i64_in _ (by omega)
                      have hw2 : IntKind.i64.wrap ((endFrom S0 (RL.take k) : Nat) + (q : Int) - 1) = (endFrom S0 (RL.take k) : Nat) + (q : Int) - 1 := IntWalk.i64_in _ (by omega)
                      have hn0 := World.new_ne wr ⟨wk.heap.size, 0, none⟩ x0
                      have hn1 := World.new_ne wr ⟨wk.heap.size, 1, none⟩ x1
                      obtain ⟨wq, rfl⟩ : ∃ wq : World, wq = wr := ⟨_, rfl⟩
                      go_upto_region 29 with (fail)
                      go_cut [18] (fun p wx => ∃ g, p = .pointer (some ⟨g, 0, none⟩) ∧ Blk wx g #[.int .i64 ((endFrom S0 (RL.take k) : Nat) + (q : Int) - 1), .int .i64 (byteL (bl x.src) q), .int .i64 (byteL (bl x.dst) q), .int .i64 ((endFrom S0 (RL.take k) : Nat) + (q : Int))] 58 ∧ wq.heap.size ≤ g ∧ Below wq.heap.size wq wx)
                      case first =>
                        go_region_held3 (fun w' => w'.cell? ⟨wk.heap.size, 0, none⟩ = some (.string x.src) ∧ w'.cell? ⟨wk.heap.size, 1, none⟩ = some (.string x.dst)) (go_keep)
                          (first | (go_at_call_of 37 (Value.string x.src); refine (byteAt13_any x.src q _ hvx.1).mono ?_; rintro e w' ⟨rfl, rfl⟩) | (go_at_call_of 37 (Value.string x.dst); refine (byteAt13_any x.dst q _ hvx.2.1).mono ?_; rintro e w' ⟨rfl, rfl⟩))
                        all_goals (go_wp2_with fail; go_meet; refine ⟨wq.heap.size, rfl, ?_, Nat.le_refl _, ?_⟩)
                        all_goals first | exact Blk.new _ _ _ | exact ((Below.refl _ _).alloc (Nat.le_refl _) _).drew
                      case rest =>
                        obtain ⟨g, rfl, hga, hgs, hbg⟩ := hcut
                        have hLDk : LD[k]? = some (LD[k]'(by rw [HLDe.out, leadsFrom_length, Hlen.out]; omega)) := List.getElem?_eq_getElem _
                        obtain ⟨lead, hlead⟩ : ∃ lead, LD[k]? = some lead := ⟨_, hLDk⟩
                        have hbg0 := hbq.trans (hbg.mono hbq.size)
                        have hld : wc.cell? ⟨w1.heap.size, k, none⟩ = some (.int .i64 (lead : Nat)) := by
                          have hL := HLD.out
                          have hlt := (hL.lt w1.heap.size rfl).2
                          rw [hbg0.cell (p := ⟨w1.heap.size, k, none⟩) hlt, hL.cellAt k (by omega)]
                          exact natsV_get _ _ _ hlead
                        have g3 : wc.cell? ⟨g, 3, none⟩ = some (.int .i64 ((endFrom S0 (RL.take k) : Nat) + (q : Int))) := hga.cell 3
                        have f3 := hga.frozen 3
                        have Hga := Lib.hid hga
                        have Hlead := Lib.hid hlead
                        clear hga hlead hLDk hn0 hn1 x0 x1 hw1 hw2
                        obtain ⟨wz, rfl⟩ : ∃ wz : World, wz = wc := ⟨_, rfl⟩
                        go_upto_if 137 with (fail)
                        go_cut [] (fun wx => Blk wx g #[.int .i64 ((endFrom S0 (RL.take k) : Nat) + (q : Int) - 1), .int .i64 (byteL (bl x.src) q), .int .i64 (byteL (bl x.dst) q), .int .i64 (arcTo x.l (endFrom S0 (RL.take k)) lead q)] 58 ∧ Below wq.heap.size wq wx)
                        case first =>
                          by_cases hlast : q + 1 = x.l.n
                          · have d1 : ((q : Int) == (x.l.n : Nat) - 1) = true := by simp; omega
                            have Hl := Lib.hid hlast
                            clear hlast
                            go_wp2_with fail
                            go_meet
                            have := Hga.out.set_ 3 (.int .i64 (lead : Nat))
                            exact ⟨by rw [arcTo, if_pos Hl.out]; exact this, hbg.setCell (p := ⟨g, 3, none⟩) hgs _⟩
                          · have d1 : ((q : Int) == (x.l.n : Nat) - 1) = false := by simp; omega
                            have Hl := Lib.hid hlast
                            clear hlast
                            go_wp2_with fail
                            go_meet
                            exact ⟨by rw [arcTo, if_neg Hl.out]; exact Hga.out, hbg⟩
                        case rest =>
                          obtain ⟨hga2, hbg2⟩ := hcut
                          have hbz := hbq.trans (hbg2.mono hbq.size)
                          have hoa2 := own_below Hoa.out hbg2
                          have hos2 := own_below Hos.out hbg2
                          have hxz := (Hxq.out).below hbg2 (Hxq.out).lt
                          have hsz2 := hbg2.size
                          have hsq := hbq.size
                          have hal : ars.length ≤ 9000 := by
                            rw [Hars.out, List.length_append]
                            have h1 := arcsFrom_length A.bls RL LD S0 (RL.take k) (LD.take k) (fun y hy => Hn9.out y (List.mem_of_mem_take hy))
                            have h2 := ruleArcsTo_le x.l (endFrom S0 (RL.take k)) (LD[k]?.getD 0) sts q
                            have h3 : (RL.take k).length ≤ 80 := by rw [List.length_take, Hlen.out]; omega
                            have h4 : (RL.take k).length * (RL.length + 10) ≤ 80 * 90 := Nat.mul_le_mul h3 (by rw [Hlen.out]; omega)
                            have h5 : sts.length ≤ 82 := by rw [Hst2.out]; have := startsIn_length A.bls x.l RL LD; have := Hlen.out; simp; omega
                            omega
                          have hgne : u11.ownBlock ≠ some g := fun e => by have := (Hoa.out.lt g e).2; omega
                          have Hb2 := Lib.hid (And.intro hga2 (And.intro hoa2 (And.intro hos2 hxz)))
                          clear hld g3 f3
                          obtain ⟨wy, hwy'⟩ : ∃ wy : World, wy = wc := ⟨_, rfl⟩
                          rw [← hwy'] at hbz hbg2 Hb2 hsz2 ⊢
                          clear hwy'
                          have hlk : LD[k]?.getD 0 = lead := by rw [Hlead.out]; rfl
                          obtain ⟨p0, p1, p2, p3⟩ : wy.cell? ⟨g, 0, none⟩ = _ ∧ wy.cell? ⟨g, 1, none⟩ = _ ∧ wy.cell? ⟨g, 2, none⟩ = _ ∧ wy.cell? ⟨g, 3, none⟩ = _ := ⟨Hb2.out.1.cell 0, Hb2.out.1.cell 1, Hb2.out.1.cell 2, Hb2.out.1.cell 3⟩
                          obtain ⟨ua, uc, rfl, _⟩ := RowAt.of_own Hoa.out
                          rcases q with _ | p
                          · have hs2 := Hos.out
                            obtain ⟨gs, caps, rfl⟩ : ∃ gs caps, u14 = .slice (some ⟨gs, 0, none⟩) sts.length caps := by
                              have hl2 : sts.length = (1 :: startsIn A.bls x.l RL LD).length + 1 := by rw [Hst2.out]; rfl
                              rw [hl2] at hs2
                              obtain ⟨gs, caps, e⟩ := own_succ hs2
                              exact ⟨gs, caps, by rw [hl2]; exact e⟩
                            clear hs2 p0 p1 p2 p3
                            go_wp2_with fail
                            go_loopw [11, 19] (fun av c wx => ∃ (s : Nat) (f : Int), s ≤ sts.length ∧ c = .int .i64 s ∧
                              wx.ownsRow wL.heap.size 58 4 av (ars ++ (sts.take s).map fun s : Nat => arcAt x.l (endFrom S0 (RL.take k)) lead 0 (s : Int)).length (flat (ars ++ (sts.take s).map fun s : Nat => arcAt x.l (endFrom S0 (RL.take k)) lead 0 (s : Int))) ∧
                              wx.ownsRow wk.heap.size 3 1 (.slice (some ⟨gs, 0, none⟩) sts.length caps) sts.length (natsV sts) ∧ Blk wx wk.heap.size #[.string x.src, .string x.dst, .string x.nxt, .bool x.fin] 44 ∧
                              Blk wx g #[.int .i64 f, .int .i64 (byteL (bl x.src) 0), .int .i64 (byteL (bl x.dst) 0), .int .i64 (arcTo x.l (endFrom S0 (RL.take k)) lead 0)] 58 ∧ av.ownBlock ≠ some g ∧ Below wL.heap.size wL wx) (fun _ c _ => sts.length - (intOf c).toNat)
                            case atStart => exact ⟨0, _, Nat.zero_le _, rfl, by rw [List.take_zero, List.map_nil, List.append_nil]; exact Hb2.out.2.1, Hb2.out.2.2.1, Hb2.out.2.2.2, Hb2.out.1, hgne, hbz⟩
                            case round =>
                              obtain ⟨s, f, hs, rfl, hoa3, hos3, hx3, hg3, hne3, hb3'⟩ := hrel
                              obtain ⟨L5, hL5⟩ : ∃ L5, L5 = ars ++ (sts.take s).map fun s : Nat => arcAt x.l (endFrom S0 (RL.take k)) lead 0 (s : Int) := ⟨_, rfl⟩
                              rw [← hL5] at hoa3
                              have HL5 := Lib.hid hL5
                              clear hL5
                              have B3 := Lib.hid (And.intro hoa3 (And.intro hos3 (And.intro hx3 (And.intro hg3 hne3))))
                              have hsts82 : sts.length ≤ 82 := by rw [Hst2.out]; have := startsIn_length A.bls x.l RL LD; have := Hlen.out; simp; omega
                              clear hoa3 hos3 hx3 hg3 hne3
                              by_cases hsl : s < sts.length
                              · have z0 : wr.cell? ⟨gs, s, none⟩ = some (.int .i64 (sts[s] : Nat)) := by
                                  rw [B3.out.2.1.cellAt s (by omega)]; exact natsV_get _ _ _ (List.getElem?_eq_getElem hsl)
                                obtain ⟨q0, q1, q2, q3⟩ : wr.cell? ⟨g, 0, none⟩ = _ ∧ wr.cell? ⟨g, 1, none⟩ = _ ∧ wr.cell? ⟨g, 2, none⟩ = _ ∧ wr.cell? ⟨g, 3, none⟩ = _ := ⟨B3.out.2.2.2.1.cell 0, B3.out.2.2.2.1.cell 1, B3.out.2.2.2.1.cell 2, B3.out.2.2.2.1.cell 3⟩
                                have f0 := B3.out.2.2.2.1.frozen 0
                                have hgL : wL.heap.size ≤ g := by omega
                                have hgk : wk.heap.size ≠ g := by have := (Hxq.out).lt; omega
                                have hoa4 := Lib.hid (own_setCell B3.out.1 (p := ⟨g, 0, none⟩) B3.out.2.2.2.2 (.int .i64 (sts[s] : Nat)))
                                have hlen4 : L5.length ≤ 9100 := by rw [HL5.out, List.length_append, List.length_map, List.length_take]; omega
                                have hsr4 := hb3'.size
                                obtain ⟨va, vc, rfl, _⟩ := RowAt.of_own B3.out.1
                                go_wp2_with (at_builtin; refine wpList_append_own_at _ rfl _ _ 31 rfl wL.heap.size 58 j0 _ 4 32 Tryz.underlying31 hj hj0 hj1 hj2 rfl (by decide) _ _ _ rfl (hoa4.out.alloc _) ⟨wr.heap.size, 0, none⟩ 1 1 (arcAt x.l (endFrom S0 (RL.take k)) lead 0 (sts[s] : Nat)).cells rfl rfl ?c1 ?c2 ?c3 ?c4 ?c5 ?_)
                                case c1 =>
                                  have := cells_new (wr.setCell ⟨g, 0, none⟩ (.int .i64 (sts[s] : Nat))) (arcAt x.l (endFrom S0 (RL.take k)) lead 0 (sts[s] : Nat)).cells 58
                                  rw [show (wr.setCell ⟨g, 0, none⟩ (.int .i64 (sts[s] : Nat))).heap.size = wr.heap.size from by simp] at this
                                  exact this
                                case c2 => simp [Arc.cells, Value.oneCell']
                                case c3 => unfold maxLen; omega
                                case c4 => omega
                                case c5 => simp; omega
                                intro v' w8 hown8 hgrow8 _ hloc8
                                have hst8 := loop5_step B3.out.1 B3.out.2.1 B3.out.2.2.1 B3.out.2.2.2.1 B3.out.2.2.2.2 hgk _ _ hgrow8 hloc8
                                have hb8 : Below wL.heap.size wL w8 := ((hb3'.setCell (p := ⟨g, 0, none⟩) hgL _).alloc (by simp; omega) _).grown hgrow8 (by simp; omega) (fun k hk => (hoa4.out.lt k hk).1)
                                have H8 := Lib.hid (And.intro hown8 hst8)
                                clear hown8 hst8 hgrow8 hloc8 q0 q1 q2 q3 f0 z0
                                go_wp2
                                refine ⟨⟨v', _, _, _, _, _, _, _, _, _, _, _, _, _, _, _, _, ⟨s + 1, _, by omega, ?x1, ?x2, H8.out.2.1, H8.out.2.2.1, H8.out.2.2.2.1, H8.out.2.2.2.2, hb8⟩, rfl⟩, ?x4⟩
                                case x1 => go_num
                                case x2 =>
                                  have h9 := H8.out.1
                                  rw [map_take_succ _ _ _ hsl, ← List.append_assoc, ← HL5.out, flat_append, List.length_append]
                                  exact h9
                                case x4 => simp [intOf]; omega
                              · obtain rfl : s = sts.length := by omega
                                go_wp2
                                refine ⟨⟨1, _, by omega, rfl, ?_, B3.out.1, B3.out.2.1, B3.out.2.2.1, hb3'⟩, by simp [intOf]; omega⟩
                                rw [HL5.out, List.take_length, Hars.out, ruleArcsTo, if_pos rfl, List.append_nil, ruleArcsTo_one, hlk]
                          · go_wp2_with (at_builtin; refine wpList_append_own _ rfl _ _ 31 rfl wL.heap.size 58 j0 _ 4 32 Tryz.underlying31 hj hj0 hj1 hj2 rfl (by decide) _ _ _ rfl (Hb2.out.2.1.alloc _) ⟨wy.heap.size, 0, none⟩ 1 1 (arcAt x.l (endFrom S0 (RL.take k)) lead (p + 1) ((endFrom S0 (RL.take k) : Nat) + (p : Int))).cells rfl rfl ?c1 ?c2 ?c3 ?c4 ?c5 ?_)
                            case c1 =>
                              have := cells_new wy (arcAt x.l (endFrom S0 (RL.take k)) lead (p + 1) ((endFrom S0 (RL.take k) : Nat) + (p : Int))).cells 58
                              rw [show ((endFrom S0 (RL.take k) : Nat) : Int) + ((p : Int) + 1) - 1 = (endFrom S0 (RL.take k) : Nat) + (p : Int) from by omega]
                              exact this
                            case c2 => simp [Arc.cells, Value.oneCell']
                            case c3 => unfold maxLen; omega
                            case c4 => omega
                            case c5 => have := hbz.size; simp; omega
                            intro v' w7 hown7 hgrow7 _
                            have hbs := hbz.size
                            have hos7 := own_kept_other (Hb2.out.2.2.1.alloc _) (Hb2.out.2.1.alloc _) (by decide) hgrow7
                            have hxb7 := (Hb2.out.2.2.2.alloc _).grown hgrow7 (fun e => Hb2.out.2.2.2.own_ne Hb2.out.2.1 (by decide) e.symm)
                            have hb7 : Below wL.heap.size wL w7 := (hbz.alloc hbs _).grown hgrow7 (by simp; omega) (fun k hk => (Hb2.out.2.1.lt k hk).1)
                            have H7 := Lib.hid (And.intro hown7 (And.intro hos7 hxb7))
                            clear hown7 hgrow7 hos7 hxb7 p0 p1 p2 p3
                            go_wp2
                            refine ⟨⟨p + 1 + 1, ars ++ [arcAt x.l (endFrom S0 (RL.take k)) lead (p + 1) ((endFrom S0 (RL.take k) : Nat) + (p : Int))], by omega, by go_num, ?_, ?_, H7.out.2.1, H7.out.2.2, hb7⟩, by simp [intOf]; omega⟩
                            · rw [Hars.out, ruleArcsTo_snoc, hlk, List.append_assoc]
                            · rw [flat_append, List.length_append]
                              have := H7.out.1
                              simpa [flat] using this
                    · obtain rfl : q = x.l.n := by omega
                      have hLDl : LD.length = R.list.length := by rw [HLDe.out, leadsFrom_length, Hlen.out]
                      have hrk : RL.take (k + 1) = RL.take k ++ [x.l] := by rw [← HRL.out, rl_take _ _ hkl, ← Hx.out]
                      have hld : LD.take (k + 1) = LD.take k ++ [LD[k]?.getD 0] := by rw [List.take_add_one, List.getElem?_eq_getElem (by omega)]; rfl
                      have harcs : ars = arcsFrom A.bls RL LD S0 (RL.take (k + 1)) (LD.take (k + 1)) := by
                        rw [hrk, hld, arcsFrom_snoc _ _ _ _ _ _ _ _ (by rw [List.length_take, List.length_take, hLDl, Hlen.out]), ← Hst2.out, ← ruleArcsTo_all _ _ _ _ hn9.2, Hars.out]
                      have hend2 : endFrom S0 (RL.take (k + 1)) = endFrom S0 (RL.take k) + x.l.n - 1 := by rw [hrk, endFrom_snoc]
                      have H10 := Lib.hid (And.intro harcs hend2)
                      clear hrk hld harcs hend2
                      go_wp2
                      refine ⟨⟨k + 1, by omega, by go_num, ?_, ?_, hbq⟩, by simp [intOf]; omega⟩
                      · rw [H10.out.2]; congr 1; omega
                      · rw [← H10.out.1]; exact Hoa.out
          · obtain rfl : k = R.list.length := by omega
            have hLDl : LD.length = R.list.length := by rw [HLDe.out, leadsFrom_length, Hlen.out]
            have erl : RL.take R.list.length = RL := by rw [← Hlen.out, List.take_length]
            have eld : LD.take R.list.length = LD := by rw [← hLDl, List.take_length]
            rw [erl, eld] at Ha
            rw [erl]
            have hal : (arcsFrom A.bls RL LD S0 RL LD).length ≤ 9000 := by
              have h1 := arcsFrom_length A.bls RL LD S0 RL LD Hn9'.out
              have h4 : RL.length * (RL.length + 10) ≤ 80 * 90 := Nat.mul_le_mul (by rw [Hlen.out]; omega) (by rw [Hlen.out]; omega)
              omega
            have hoF := Lib.hid (And.intro Ha.out (And.intro hal (And.intro erl eld)))
            obtain ⟨ua, uc, rfl, _, hrw⟩ := RowAt.of_own Ha.out
            clear erl eld hal Ha
            go_wp2_with fail
            generalize hWF : wr.alloc _ = WF
            have hbF : Below wL.heap.size wL WF := by rw [← hWF]; exact hbx.alloc hbx.size _
            have hoF2 : WF.ownsRow wL.heap.size 58 4 (.slice ua (arcsFrom A.bls RL LD S0 RL LD).length uc) (arcsFrom A.bls RL LD S0 RL LD).length (flat (arcsFrom A.bls RL LD S0 RL LD)) := by rw [← hWF]; exact hoF.out.1.alloc _
            have hF12 : RowAt WF WF.heap.size (some ⟨wr.heap.size, 0, none⟩) (nums [1, 2]) := by
              rw [← hWF]
              intro _
              refine ⟨_, 0, rfl, by simp, fun i x hx => ?_⟩
              rw [Nat.zero_add]
              exact Box.new wr [.int .i64 1, .int .i64 2] _ i x hx
            clear hWF
            obtain ⟨_, _, e, _, hrF⟩ := RowAt.of_own hoF2
            injection e with e1 _ e3
            subst e1 e3
            refine (Sorted12_any _ _ _ (by have := hoF.out.2.1; omega) WF hrF).mono ?_
            rintro e w9 ⟨vs, S, rfl, hinc, hmem, hoS, hb9⟩
            have hb9L : Below wL.heap.size wL w9 := hbF.trans (hb9.mono hbF.size)
            have hb90 := hbw.trans (hb9L.mono hbw.size)
            have hw9 := hw0.trans (hb90.mono hw0.size)
            obtain ⟨_, _, hm⟩ := Hk.out w9 hb90
            have hmB : Blk w9 (w.heap.size + 3) #[.int .i64 0, .int .i64 0, .slice none 0 0, .slice none 0 0] 33 := hm
            have m0 : w9.cell? ⟨w.heap.size + 3, 0, none⟩ = some (.int .i64 0) := hmB.cell 0
            have m1 : w9.cell? ⟨w.heap.size + 3, 1, none⟩ = some (.int .i64 0) := hmB.cell 1
            have m2 : w9.cell? ⟨w.heap.size + 3, 2, none⟩ = some (.slice none 0 0) := hmB.cell 2
            have m3 : w9.cell? ⟨w.heap.size + 3, 3, none⟩ = some (.slice none 0 0) := hmB.cell 3
            have f0 : ∀ j, w9.frozen? ⟨w.heap.size + 3, j, none⟩ = false := fun j => hmB.frozen j
            have hlt3 : w.heap.size + 3 < wL.heap.size := by have := hbw.size; omega
            have hlo : ∀ bb, vs.ownBlock = some bb → bb ≠ w.heap.size + 3 := fun bb e => by have := (hoS.lt bb e).1; have := hbF.size; omega
            have HlS := Lib.hid (own_len hoS)
            obtain ⟨sa, sc, rfl, _, hrS⟩ := RowAt.of_own hoS
            have hmemF : ∀ y, y ∈ S ↔ y ∈ compileArcs A.bls (R.list.map Rul.l) := by
              intro y
              rw [hmem, HRL.out, compileArcs, HS0.out, ← HLDe.out]
            have HF := Lib.hid (And.intro hinc (And.intro hmemF (And.intro hrS hlo)))
            clear hinc hmem hmemF hrS hlo hoS hm hmB
            go_wp2
            refine bodyPost_ret (v := .tuple #[.agg #[.int .i64 (endFrom S0 RL : Nat), .int .i64 0, .slice (some ⟨wr.heap.size, 0, none⟩) 2 2, .slice sa S.length sc], .int .i64 0]) (by simp [results, Tryz.results13, go_sem, m0, m1, m2, m3]) rfl ?_
            have hbs := (((hw9.setCell (p := ⟨w.heap.size + 3, 0, none⟩) (by simp) (.int .i64 (endFrom S0 RL : Nat))).setCell (p := ⟨w.heap.size + 3, 1, none⟩) (by simp) (.int .i64 0)).setCell (p := ⟨w.heap.size + 3, 2, none⟩) (by simp) (.slice (some ⟨wr.heap.size, 0, none⟩) 2 2)).setCell (p := ⟨w.heap.size + 3, 3, none⟩) (by simp) (.slice sa S.length sc)
            have hS := HF.out.2.2.1
            have hneS : ∀ bb o, sa = some ⟨bb, o, none⟩ → bb ≠ w.heap.size + 3 := fun bb o e => HF.out.2.2.2 bb (by rw [e]; rfl)
            have hrow1 := (((hS.set (p := ⟨w.heap.size + 3, 0, none⟩) hneS (.int .i64 (endFrom S0 RL : Nat))).set (p := ⟨w.heap.size + 3, 1, none⟩) hneS (.int .i64 0)).set (p := ⟨w.heap.size + 3, 2, none⟩) hneS (.slice (some ⟨wr.heap.size, 0, none⟩) 2 2)).set (p := ⟨w.heap.size + 3, 3, none⟩) hneS (.slice sa S.length sc)
            have hneF : ∀ bb o, some (⟨wr.heap.size, 0, none⟩ : Addr) = some ⟨bb, o, none⟩ → bb ≠ w.heap.size + 3 := fun bb o e => by
              have e2 : wr.heap.size = bb := by injection e with e; injection e
              have := hbx.size; omega
            have hF9 := hF12.below hb9 (Nat.le_refl _)
            have hrow2 := (((hF9.set (p := ⟨w.heap.size + 3, 0, none⟩) hneF (.int .i64 (endFrom S0 RL : Nat))).set (p := ⟨w.heap.size + 3, 1, none⟩) hneF (.int .i64 0)).set (p := ⟨w.heap.size + 3, 2, none⟩) hneF (.slice (some ⟨wr.heap.size, 0, none⟩) 2 2)).set (p := ⟨w.heap.size + 3, 3, none⟩) hneF (.slice sa S.length sc)
            refine ⟨_, ⟨(endFrom S0 RL : Nat), 0, [1, 2], S⟩, 0, rfl, ⟨_, 2, _, sc, rfl, by unfold maxLen; simp, HlS.out, hrow2.more (by have := hb9.size; simpa using this), hrow1.more (by simp)⟩, hbs, fun h => absurd HV.out h, fun _ => ⟨rfl, ⟨?_, rfl, rfl, HF.out.1, HF.out.2.1⟩⟩⟩
            rw [compileStates, HRL.out, HS0.out]
  · rw [decide_eq_false hv]
    have hbs := (((hb1'.setCell (p := ⟨w.heap.size + 3, 0, none⟩) (by simp) (.int .i64 0)).setCell (p := ⟨w.heap.size + 3, 1, none⟩) (by simp) (.int .i64 0)).setCell (p := ⟨w.heap.size + 3, 2, none⟩) (by simp) (.slice none 0 0)).setCell (p := ⟨w.heap.size + 3, 3, none⟩) (by simp) (.slice none 0 0)
    go_wp2
    refine bodyPost_ret (v := .tuple #[.agg #[.int .i64 0, .int .i64 0, .slice none 0 0, .slice none 0 0], .int .i64 1]) (by simp [results, Tryz.results13, go_sem, m0, m1, m2, m3]) rfl ?_
    refine ⟨_, ⟨0, 0, [], []⟩, 1, rfl, ⟨none, 0, none, 0, rfl, by simp, by simp, fun h => by simp [nums] at h, fun h => by simp [flat] at h⟩, hbs, fun _ => ⟨rfl, rfl⟩, fun h => absurd h hv⟩

end Go.Proofs.YtielbaaaipkbdaaGreatDoor
