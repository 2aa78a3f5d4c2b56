/- Walks: what the laws of spelled words share: rows of abbreviations, appended rows, what Spell answered. -/
import Derived.Test.YthachfkcgdfdfaaGreatDoorS17
import Derived.Maps.AppendAt
namespace Go.Proofs.YthachfkcgdfdfaaGreatDoor
open Go.RowKit Go.Shelf Classical

/-- What Spell answered, as it is read later on. -/
theorem SpellPost.read {l : List Sht} {W : List ByteArray} {w w' : World} {e : Ending} (h : SpellPost l W w e w') : ∃ (la : Option Addr) (lc : Nat) (L : List Spl) (err : Int), e = .returned (.tuple #[.slice la L.length lc, .int .i64 err]) ∧ SpellOf l W (L.map Spl.key) err ∧ SplsAt w' w'.heap.size la L ∧ Below w.heap.size w w' := by
 obtain ⟨ov, L, err, rfl, h1, h2, h3, h4⟩ := h
 obtain ⟨la, lc, rfl, -, hra⟩ := RowAt.of_own h2
 exact ⟨la, lc, L, err, rfl, h1, ⟨hra, fun x hx => ⟨(h3 x hx).1, by
  obtain ⟨a, c, e1, -, e2⟩ := RowAt.of_own (h3 x hx).2
  cases e1
  exact e2⟩⟩, h4⟩
theorem SpellOf.err {l : List Sht} {W : List ByteArray} {all : List (List ByteArray × Int)} {e : Int} (h : SpellOf l W all e) : all.length ≤ 64 ∧ (e ≠ 0 → all = []) := by
 rcases h with ⟨_, rfl, rfl⟩ | ⟨_, _, rfl, rfl⟩ | ⟨_, h1, rfl, _, h2, _⟩
 ·exact ⟨by simp, fun _ => rfl⟩
 ·exact ⟨by simp, fun _ => rfl⟩
 ·exact ⟨by omega, fun h => absurd rfl h⟩
theorem own_empty (w : World) (t : TypeId) (size : Nat) : (w.alloc (.cells #[] t)).ownsRow w.heap.size t size (.slice (some ⟨w.heap.size, 0, none⟩) 0 0) 0 [] := by
 refine ⟨by simp, .inr ⟨w.heap.size, 0, #[], rfl, Nat.le_refl _, heap_alloc_new w _, Nat.le_refl _, Nat.zero_le _, ?_, ?_⟩⟩ <;> simp
theorem Spelt.most {l : List Sht} {W : List ByteArray} {all : List (List ByteArray × Int)} (h : Spelt l W all) {x : List ByteArray × Int} (hx : x ∈ all) : x.2 ≤ 1000 * W.length := by
 obtain ⟨ps, h1, rfl⟩ := (h.mem _).1 hx
 have : ∀ {Cs : List (List (ByteArray × Int))} {ps : List (ByteArray × Int)}, Picks Cs ps → (∀ C ∈ Cs, ∀ p ∈ C, p.2 ≤ 1000) → sumC ps ≤ 1000 * Cs.length := by
  intro Cs ps hp
  induction hp with
  | nil => intro _; exact Int.le_refl _
  | cons hp _ ih =>
   intro hC
   rw [sumC_cons, List.length_cons]
   have := hC _ (List.mem_cons_self ..) _ hp
   have := ih (fun C hC' => hC C (List.mem_cons_of_mem _ hC'))
   omega
 have hl : (chsW l W).length = W.length := by unfold chsW; rw [List.length_map]
 rw [← hl]
 refine this h1 (fun C hC p hp => ?_)
 obtain ⟨w, _, rfl⟩ := List.mem_map.1 hC
 rcases (((chs_is l w).mem p.1 p.2).1 hp).1 with ⟨_, e⟩ | ⟨s, hs, _, _, e⟩
 ·omega
 ·have := (h.ok.each s hs).2.2.2.2
  omega
theorem add_at (b o i : Nat) : Addr.add ⟨b, o, none⟩ i = ⟨b, o + i, none⟩ := by
 unfold Addr.add
 split
 ·rename_i h; subst h; rfl
 ·rfl
theorem flatR_get {k : Nat} : ∀ {rows : List (List Value)} {m : Nat} {x : Value}, (∀ r ∈ rows, r.length = k) → rows.flatten[m]? = some x → ∃ (i j : Nat) (r : List Value), rows[i]? = some r ∧ r[j]? = some x ∧ m = i * k + j
 | [], m, x, _, h => by simp at h
 | r :: rows, m, x, hk, h => by
  rw [List.flatten_cons] at h
  have hr := hk r (List.mem_cons_self ..)
  by_cases hm : m < r.length
  ·rw [List.getElem?_append_left hm] at h
   exact ⟨0, m, r, rfl, h, by omega⟩
  ·rw [List.getElem?_append_right (by omega)] at h
   obtain ⟨i, j, r', h1, h2, h3⟩ := flatR_get (fun q hq => hk q (List.mem_cons_of_mem _ hq)) h
   exact ⟨i + 1, j, r', by simpa using h1, h2, by rw [Nat.add_mul]; omega⟩
theorem flatR_put {k : Nat} : ∀ {rows : List (List Value)} {i j : Nat} {r : List Value} {x : Value}, (∀ r ∈ rows, r.length = k) → rows[i]? = some r → r[j]? = some x → rows.flatten[i * k + j]? = some x
 | [], i, j, r, x, _, h, _ => by simp at h
 | r0 :: rows, 0, j, r, x, hk, h, hx => by
  obtain rfl : r0 = r := by simpa using h
  rw [List.flatten_cons, Nat.zero_mul, Nat.zero_add, List.getElem?_append_left (List.getElem?_eq_some_iff.1 hx).1]
  exact hx
 | r0 :: rows, i + 1, j, r, x, hk, h, hx => by
  have hr := hk r0 (List.mem_cons_self ..)
  have ih := flatR_put (fun q hq => hk q (List.mem_cons_of_mem _ hq)) (by simpa using h) hx
  rw [List.flatten_cons, List.getElem?_append_right (by rw [Nat.add_mul]; omega), show (i + 1) * k + j - r0.length = i * k + j by rw [Nat.add_mul]; omega]
  exact ih
theorem RowsAt.flat {w : World} {B k : Nat} {a : Option Addr} {rows : List (List Value)} (h : RowsAt w B k a rows) (hk : ∀ r ∈ rows, r.length = k) : RowAt w B a rows.flatten := fun hn => by
 obtain ⟨b, off, e, hb, hc⟩ := h (by
  rcases rows with _ | ⟨r, rows⟩
  ·simp at hn
  ·simp)
 refine ⟨b, off, e, hb, fun m x hm => ?_⟩
 obtain ⟨i, j, r, h1, h2, rfl⟩ := flatR_get hk hm
 rw [← Nat.add_assoc]
 exact hc i r h1 j x h2
theorem RowAt.rows {w : World} {B k : Nat} {a : Option Addr} {rows : List (List Value)} (h : RowAt w B a rows.flatten) (hk : ∀ r ∈ rows, r.length = k) (hk0 : 0 < k) : RowsAt w B k a rows := fun hn => by
 obtain ⟨b, off, e, hb, hc⟩ := h (by
  rcases rows with _ | ⟨r, rows⟩
  ·simp at hn
  ·have := hk r (List.mem_cons_self ..)
   rw [List.flatten_cons, List.length_append]; omega)
 refine ⟨b, off, e, hb, fun i r hi j x hj => ?_⟩
 have := hc _ x (flatR_put hk hi hj)
 rwa [← Nat.add_assoc] at this
theorem shts_len (l : List Sht) : ∀ r ∈ l.map Sht.cells, r.length = 4 := fun r hr => by
 obtain ⟨s, _, rfl⟩ := List.mem_map.1 hr
 rfl
theorem shts_flat (l : List Sht) : (l.map Sht.cells).flatten.length = l.length * 4 := by
 induction l with
 | nil => rfl
 | cons s l ih => rw [List.map_cons, List.flatten_cons, List.length_append, ih, List.length_cons, Nat.add_mul]; show 4 + _ = _; omega
theorem shts_one {l : List Sht} : ∀ u ∈ (l.map Sht.cells).flatten, u.oneCell' = true := fun u hu => by
 obtain ⟨r, hr, hu⟩ := List.mem_flatten.1 hu
 obtain ⟨s, _, rfl⟩ := List.mem_map.1 hr
 simp only [Sht.cells, List.mem_cons, List.not_mem_nil, or_false] at hu
 rcases hu with rfl | rfl | rfl | rfl <;> rfl
theorem strs_one {l : List ByteArray} : ∀ u ∈ strs l, u.oneCell' = true := fun u hu => by
 obtain ⟨x, _, rfl⟩ := List.mem_map.1 hu
 rfl
theorem run_append_nil (w : World) (base : Nat) (t ty e : TypeId) (i : TypeInfo) (size c : Nat) (ht : Tryz.prog.underlying t = some (.slice e)) (hi : Tryz.prog.info? e = some i)
  (v : Value) (n : Nat) (xs : List Value) (hown : w.ownsRow base e size v n xs) : (Builtin.append_ #[t, t] ty #[v, .slice none 0 c]).run Tryz.prog w = .ok v w := by
 rcases hown.2 with ⟨rfl, rfl⟩ | ⟨g, cap, cur, rfl, _, _, hnc, _⟩
 ·simp [Builtin.append_, run_underlying ht, sizeOf, typeInfo, hi, Builtin.lenOf, Builtin.firstCells]
 ·simp [Builtin.append_, run_underlying ht, sizeOf, typeInfo, hi, Builtin.lenOf, Builtin.firstCells, hnc, storeCells]
set_option maxRecDepth 100000 in
/-- append of a row that is there, or nil. -/
theorem wp_append_row {w : World} {o : Oper} {a : Act} {K : Act → World → Prop} {Q : Exit → Act → World → Prop} (s x : Operand) (t : TypeId)
  (ho : o.op = .call { callee := .builtin .append, args := #[s, x], argTypes := #[t, t] }) (base : Nat) (e : TypeId) (i : TypeInfo) (z : Value) (size bytes : Nat) (ht : Tryz.prog.underlying t = some (.slice e)) (hi : Tryz.prog.info? e = some i) (hz : i.zero = some z)
  (hsize : i.size = size) (hby : i.bytes = bytes) (hzs : z.cells.size = size) (hsz : 0 < size)
  (v : Value) (n : Nat) (xs : List Value) (hs : a.eval s = v) (hown : w.ownsRow base e size v n xs) (fa : Option Addr) (m c : Nat) (ys : List Value) (hx : a.eval x = .slice fa m c) (hm : ys.length = m * size) {B : Nat} (hrow : RowAt w B fa ys) (h1 : ∀ u ∈ ys, u.oneCell' = true)
  (h63 : n + m ≤ maxLen) (hbytes : (n + m) * bytes ≤ 140737488355328) (hbase : base ≤ w.heap.size)
  (h : ∀ v' w', w'.ownsRow base e size v' (n + m) (xs ++ ys) → w.grownBy w' v.ownBlock → K (a.put o.dst v') w') : o.wp Tryz.prog a w K Q := by
 cases fa with
 | none =>
  have hm0 : m = 0 := by
   rcases Nat.eq_zero_or_pos m with h0 | h0
   ·exact h0
   ·obtain ⟨_, _, e, _⟩ := hrow (by rw [hm]; exact Nat.mul_pos h0 hsz)
    cases e
  subst hm0
  have hy : ys = [] := List.length_eq_zero_iff.1 (by rw [hm, Nat.zero_mul])
  subst hy
  have hrun := run_append_nil w base t o.type e i size c ht hi v n xs hown
  unfold Oper.wp
  simp [execOp, ho, resolve, invoke, builtin, hs, hx, hrun, Result.andThen]
  exact h v w (by simpa using hown) (World.grownBy.refl _ _)
 | some ad =>
  refine wp_append_own w s x t ho base e i z size bytes ht hi hz hsize hby hzs hsz v n xs hs hown ad m c ys hx hm (fun j u hj => ?_) h1 h63 hbytes hbase (fun v' w' h1 h2 _ => h v' w' h1 h2)
  have hj' := (List.getElem?_eq_some_iff.1 hj).1
  obtain ⟨b, off, e, _, hc⟩ := hrow (by omega)
  injection e with e
  subst e
  unfold Addr.add
  split
  ·rename_i h0; subst h0; exact hc 0 u hj
  ·exact hc j u hj
theorem wpList_append_row {w : World} {ops : Array Oper} {rest : List Oper} {o : Oper} {a : Act} {Q : Exit → Act → World → Prop} (hgd : o.guard = none) (s x : Operand) (t : TypeId)
  (ho : o.op = .call { callee := .builtin .append, args := #[s, x], argTypes := #[t, t] }) (base : Nat) (e : TypeId) (i : TypeInfo) (z : Value) (size bytes : Nat) (ht : Tryz.prog.underlying t = some (.slice e)) (hi : Tryz.prog.info? e = some i) (hz : i.zero = some z)
  (hsize : i.size = size) (hby : i.bytes = bytes) (hzs : z.cells.size = size) (hsz : 0 < size)
  (v : Value) (n : Nat) (xs : List Value) (hs : a.eval s = v) (hown : w.ownsRow base e size v n xs) (fa : Option Addr) (m c : Nat) (ys : List Value) (hx : a.eval x = .slice fa m c) (hm : ys.length = m * size) {B : Nat} (hrow : RowAt w B fa ys) (h1 : ∀ u ∈ ys, u.oneCell' = true)
  (h63 : n + m ≤ maxLen) (hbytes : (n + m) * bytes ≤ 140737488355328) (hbase : base ≤ w.heap.size)
  (h : ∀ v' w', w'.ownsRow base e size v' (n + m) (xs ++ ys) → w.grownBy w' v.ownBlock → wpList Tryz.prog ops Q rest (a.put o.dst v') w') : wpList Tryz.prog ops Q (o :: rest) a w :=
 wpList_plain hgd fun _ hK => wp_append_row s x t ho base e i z size bytes ht hi hz hsize hby hzs hsz v n xs hs hown fa m c ys hx hm hrow h1 h63 hbytes hbase fun v' w' h2 h3 => hK _ _ (h v' w' h2 h3)
theorem step_append_row {w : World} {ops : Array Oper} {o : Oper} {a : Act} {K : Act → World → Prop} {Q : Exit → Act → World → Prop} {E : Prop} (hgd : o.guard = none) (s x : Operand) (t : TypeId)
  (ho : o.op = .call { callee := .builtin .append, args := #[s, x], argTypes := #[t, t] }) (base : Nat) (e : TypeId) (i : TypeInfo) (z : Value) (size bytes : Nat) (ht : Tryz.prog.underlying t = some (.slice e)) (hi : Tryz.prog.info? e = some i) (hz : i.zero = some z)
  (hsize : i.size = size) (hby : i.bytes = bytes) (hzs : z.cells.size = size) (hsz : 0 < size)
  (v : Value) (n : Nat) (xs : List Value) (hs : a.eval s = v) (hown : w.ownsRow base e size v n xs) (fa : Option Addr) (m c : Nat) (ys : List Value) (hx : a.eval x = .slice fa m c) (hm : ys.length = m * size) {B : Nat} (hrow : RowAt w B fa ys) (h1 : ∀ u ∈ ys, u.oneCell' = true)
  (h63 : n + m ≤ maxLen) (hbytes : (n + m) * bytes ≤ 140737488355328) (hbase : base ≤ w.heap.size)
  (h : ∀ v' w', w'.ownsRow base e size v' (n + m) (xs ++ ys) → w.grownBy w' v.ownBlock → K (a.put o.dst v') w') :
  if Region.wanted o (yielded ops a.tmps) = true then Oper.wp Tryz.prog o a w K Q else E := by
 have hw : Region.wanted o (yielded ops a.tmps) = true := by simp [Region.wanted, hgd]
 rw [if_pos hw]
 exact wp_append_row s x t ho base e i z size bytes ht hi hz hsize hby hzs hsz v n xs hs hown fa m c ys hx hm hrow h1 h63 hbytes hbase h
end Go.Proofs.YthachfkcgdfdfaaGreatDoor
