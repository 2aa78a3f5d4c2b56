/- Walk: the arcs from the last to the first one, as an iterator (slices.Backward). -/
import Derived.Test.YtabocamjaecaaaaGreatDoorK3
namespace Go.Proofs.YtabocamjaecaaaaGreatDoor
open Go.RowKit Classical
open Go.Shelf
attribute [local go_sem] Oper.semAt_some

/-- The arcs before a place, from the last to the first one, with their places. -/
def downs (l : List Arc) : Nat → List (Nat × Arc)
 | 0 => []
 | k + 1 => (match l[k]? with
  | some a => [(k, a)]
  | none => []) ++ downs l k
theorem downs_succ {l : List Arc} {k : Nat} {a : Arc} (h : l[k]? = some a) : downs l (k + 1) = (k, a) :: downs l k := by
 simp [downs, h]
theorem mem_downs {l : List Arc} : ∀ {k : Nat} {x : Nat × Arc}, x ∈ downs l k → l[x.1]? = some x.2
 | 0, _, h => by simp [downs] at h
 | k + 1, x, h => by
  unfold downs at h
  rcases List.mem_append.1 h with h | h
  ·cases hk : l[k]? with
   | none => rw [hk] at h; simp at h
   | some a =>
    rw [hk] at h
    obtain rfl := List.mem_singleton.1 h
    exact hk
  ·exact mem_downs h
theorem downs_len (l : List Arc) : ∀ k, (downs l k).length ≤ k
 | 0 => Nat.le_refl _
 | k + 1 => by
  have := downs_len l k
  unfold downs
  rw [List.length_append]
  split <;> simp <;> omega
def bargs (x : Nat × Arc) : Array Value := #[.int .i64 (x.1 : Int), .agg #[.int .i64 x.2.frm, .int .i64 x.2.inp, .int .i64 x.2.out, .int .i64 x.2.to]]
/-- What the iterator reads. -/
structure BackAt (W : World) (Bm : Nat) (l : List Arc) (aa : Option Addr) (ac : Nat) : Prop where
 m : W.cell? ⟨Bm, 0, none⟩ = some (.slice aa l.length ac)
 row : RowAt W W.heap.size aa (flat l)
structure KeepB (Bm : Nat) (l : List Arc) (aa : Option Addr) (W W' : World) : Prop where
 m : W'.heap[Bm]? = W.heap[Bm]?
 row : 0 < l.length → ∀ p, aa = some p → W'.heap[p.block]? = W.heap[p.block]?
section
variable {Bm : Nat} {l : List Arc} {aa : Option Addr} {W W' W'' : World} {ac : Nat}
theorem KeepB.refl : KeepB Bm l aa W W := ⟨rfl, fun _ _ _ => rfl⟩
theorem KeepB.trans (h : KeepB Bm l aa W W') (k : KeepB Bm l aa W' W'') : KeepB Bm l aa W W'' :=
 ⟨k.m.trans h.m, fun h0 p hp => (k.row h0 p hp).trans (h.row h0 p hp)⟩
theorem BackAt.keep (h : BackAt W Bm l aa ac) (k : KeepB Bm l aa W W') : BackAt W' Bm l aa ac :=
 ⟨(heap_cell k.m 0).trans h.m, fun hn => by
  obtain ⟨b, off, e, hb, hc⟩ := h.row hn
  have hl : 0 < l.length := by rw [flat_length] at hn; omega
  have he := k.row hl _ e
  have hc' : ∀ i x, (flat l)[i]? = some x → W'.cell? ⟨b, off + i, none⟩ = some x := fun i x hx => (heap_cell he (off + i)).trans (hc i x hx)
  exact ⟨b, off, e, lt_of_cell (hc' 0 (flat l)[0] (List.getElem?_eq_getElem hn)), hc'⟩⟩
theorem BackAt.below (h : BackAt W Bm l aa ac) (hb : Below W.heap.size W W') : KeepB Bm l aa W W' :=
 ⟨hb.block _ (lt_of_cell h.m), fun h0 p hp => by
  obtain ⟨b, off, e, hb', _⟩ := h.row (by rw [flat_length]; omega)
  rw [hp] at e; cases e
  exact hb.block _ hb'⟩
end

set_option maxRecDepth 100000 in
set_option maxHeartbeats 4000000 in
theorem back1_in (n : Nat) (hn : 1 ≤ n) (y Bm : Nat) (l : List Arc) (aa : Option Addr) (ac : Nat) (hl : l.length ≤ 20000) (SQ : List (Nat × Arc)) (hSQ : SQ = downs l l.length)
  (J Jx : List (Nat × Arc) → World → Prop) (Kp : World → World → Prop) (hKp : ∀ W W', Kp W W' → KeepB Bm l aa W W')
  (hY : ∀ pre x W, J pre W → pre.length < SQ.length → x ∈ SQ → YieldAt Fence.wide (n - 1) Tryz.prog y (bargs x) W fun e W' =>
   (e = .returned (.bool true) ∧ J (pre ++ [x]) W' ∧ Kp W W') ∨ (e = .returned (.bool false) ∧ Jx (pre ++ [x]) W'))
  (W : World) (hI : BackAt W Bm l aa ac) (h0 : J [] W) :
  CallsIn Fence.wide n Tryz.prog 55 #[.func (.yield y) #[] #[], .pointer (some ⟨Bm, 0, none⟩)] W fun e W' => (∃ v, e = .returned v) ∧
   ((∃ ys, ys = SQ ∧ J ys W') ∨ (∃ pre, pre <+: SQ ∧ Jx pre W')) := by
 refine callsIn_of_wp Tryz.func55 rfl trivial ?_ rfl
 simp only [Tryz.ntmps55, List.size_toArray, List.length_cons, List.length_nil, Nat.reduceAdd, Nat.reduceSub, Array.replicate_succ, Array.replicate_zero, List.push_toArray, List.append_toArray, List.nil_append, List.cons_append]
 have HSQ := Lib.hid hSQ
 have HI := Lib.hid hI
 have H0 := Lib.hid h0
 have m0 := hI.m
 have hw1 : IntKind.i64.wrap ((l.length : Int) - 1) = (l.length : Int) - 1 := IntWalk.i64_in _ (by omega)
 clear hSQ hI h0
 gi_wp2
 clear m0
 gi_loopw [3] (fun i wr => ∃ (k : Nat) (pre : List (Nat × Arc)), i = .int .i64 ((k : Int) - 1) ∧ k ≤ l.length ∧ SQ = pre ++ downs l k ∧ J pre wr ∧ KeepB Bm l aa W wr) (fun i _ => (intOf i + 1).toNat)
 case atStart => exact ⟨l.length, [], rfl, Nat.le_refl _, HSQ.out, H0.out, KeepB.refl⟩
 case round =>
  obtain ⟨k, pre, rfl, hkl, hseq, hJs, hkw⟩ := hrel
  have Hseq := Lib.hid hseq
  have HJs := Lib.hid hJs
  have hIr := HI.out.keep hkw
  have m0 := hIr.m
  have Hkw := Lib.hid hkw
  clear hseq hJs hkw
  cases k with
  | zero =>
   have hd : decide (((0 : Nat) : Int) - 1 ≥ 0) = false := by simp
   have hd2 : decide (0 ≤ ((0 : Nat) : Int) - 1) = false := by simp
   have hsq : SQ = pre := by rw [Hseq.out]; simp [downs]
   have Hsq := Lib.hid hsq
   clear hsq hIr
   gi_wp2
   go_end0
   exact ⟨⟨_, rfl⟩, .inl ⟨SQ, rfl, by rw [Hsq.out]; exact HJs.out⟩⟩
  | succ k =>
   obtain ⟨b, off, rfl, hb, hc⟩ := hIr.row.arcs (by omega)
   obtain ⟨x0, x1, x2, x3⟩ := hc k (by omega)
   obtain ⟨x, hxe⟩ : ∃ x, x = l[k] := ⟨_, rfl⟩
   rw [← hxe] at x0 x1 x2 x3
   have Hxe := Lib.hid (show l[k]? = some x by rw [hxe]; exact List.getElem?_eq_getElem (by omega))
   have Hsq := Lib.hid (show SQ = pre ++ (k, x) :: downs l k by rw [Hseq.out, downs_succ Hxe.out])
   have ek : ((k + 1 : Nat) : Int) - 1 = (k : Int) := by omega
   have hw : IntKind.i64.wrap ((k : Int) - 1) = (k : Int) - 1 := IntWalk.i64_in _ (by omega)
   clear hxe hc hIr
   rw [ek]
   have hY' := hY pre (k, x) wr HJs.out (by rw [Hsq.out]; simp) (by rw [Hsq.out]; simp)
   unfold bargs at hY'
   dsimp only at hY'
   obtain ⟨fn, tmps, assign, body, hy, hR⟩ := hY'
   gi_wp2
   refine hR.mono ?_
   rintro e W3 (⟨rfl, hJ3, hk3⟩ | ⟨rfl, hJx3⟩)
   ·gi_wp2
    exact ⟨⟨k, pre ++ [(k, x)], by go_num, by omega, by rw [Hsq.out]; simp, hJ3, Hkw.out.trans (hKp _ _ hk3)⟩, by simp [intOf]⟩
   ·gi_wp2
    refine bodyPost_ret (results_none rfl _ _ _) rfl ?_
    exact ⟨⟨_, rfl⟩, .inr ⟨_, by rw [Hsq.out]; exact ⟨downs l k, by simp⟩, hJx3⟩⟩

/-- The iterator's contract. -/
theorem back_seq (n : Nat) (hn : 1 ≤ n) (Bm : Nat) (l : List Arc) (aa : Option Addr) (ac : Nat) (hl : l.length ≤ 20000) (SQ : List (Nat × Arc)) (hSQ : SQ = downs l l.length) (W : World) (hI : BackAt W Bm l aa ac) :
  SeqStopsK Fence.wide n Tryz.prog 55 #[.pointer (some ⟨Bm, 0, none⟩)] (fun x : {x // x ∈ SQ} => bargs x.1)
   (KeepB Bm l aa) (fun ys => ys.map (·.1) = SQ) (fun _ => True) SQ.length W := by
 intro y J Jx W1 hW _ _ hY h0
 refine (back1_in n hn y Bm l aa ac hl SQ hSQ (fun p W => ∃ q : List {x // x ∈ SQ}, q.map (·.1) = p ∧ J q W) (fun p W => ∃ q : List {x // x ∈ SQ}, q.map (·.1) = p ∧ Jx q W) (KeepB Bm l aa)
  (fun _ _ h => h) ?_ W1 (hI.keep (hI.below hW)) ⟨[], rfl, h0⟩).mono ?_
 ·rintro pre x X ⟨q, rfl, h⟩ hlen hx
  obtain ⟨fn, tmps, assign, body, hy, hR⟩ := hY q ⟨x, hx⟩ X h (by simpa using hlen)
  refine ⟨fn, tmps, assign, body, hy, hR.mono ?_⟩
  rintro e X' (⟨he, hj, hk⟩ | ⟨he, hj⟩)
  ·exact .inl ⟨he, ⟨q ++ [⟨x, hx⟩], by simp, hj⟩, hk⟩
  ·exact .inr ⟨he, ⟨q ++ [⟨x, hx⟩], by simp, hj⟩⟩
 ·rintro e X ⟨hv, (⟨ys, rfl, q, hq, hj⟩ | ⟨pre, _, q, rfl, hj⟩)⟩
  ·exact ⟨hv, .inl ⟨q, hq, hj⟩⟩
  ·exact ⟨hv, .inr ⟨q, trivial, hj⟩⟩
theorem back_any (a : Option Addr) (n c : Nat) (w : World) :
  Calls Tryz.prog 30 #[.slice a n c] w fun e w' =>
   e = .returned (.func (.func 55) #[] #[.pointer (some ⟨w.heap.size, 0, none⟩)]) ∧ w' = w.alloc (.cells #[.slice a n c] 30) := by
 go_enter Tryz.func30, Tryz.ntmps30
 go_wp2
 go_ret
 exact ⟨rfl, rfl⟩
end Go.Proofs.YtabocamjaecaaaaGreatDoor
