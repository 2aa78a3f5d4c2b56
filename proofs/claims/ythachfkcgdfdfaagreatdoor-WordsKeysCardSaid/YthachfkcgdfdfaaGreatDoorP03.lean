/- GW · GT -/
import Derived.Test.YthachfkcgdfdfaaGreatDoorP01
import Derived.Laws.StructEq
import Derived.Maps.RangeRun
import Derived.Maps.OwnSet
import Derived.Maps.AppendAt
import Derived.WalkKit
import Derived.Deep.Quiet
import Derived.Deep.Draws
/- W10b · W10c · W10d · W11 -/
/- Walks of the reference's alphabets (gazetteerref10), second part: the letters of a text. -/
namespace Go.Proofs.YthachfkcgdfdfaaGreatDoor
open Go.RowKit Classical

theorem info_int : (Tryz.prog.info? 3).map (fun i => (i.zero, i.size, i.bytes)) = some (some (.int .i64 0), 1, 8) := by kernel_rfl

theorem readGo_nil (L : List (List UInt8)) (f o : Nat) (acc : List Int) : readGo L f [] o acc = ⟨acc, 0, 0⟩ := by
 cases f <;> simp [readGo]
theorem readGo_none {L : List (List UInt8)} {t : List UInt8} (ht : t ≠ []) (h : atF L t = none) (f o : Nat) (acc : List Int) : readGo L f t o acc = ⟨[], 3, o⟩ := by
 cases f <;> simp [readGo, h, ht]
theorem readGo_full {L : List (List UInt8)} {t : List UInt8} {k : Nat} (ht : t ≠ []) (h : atF L t = some k) (o : Nat) (acc : List Int) : readGo L 0 t o acc = ⟨[], 2, o⟩ := by
 simp [readGo, h, ht]
theorem readGo_step {L : List (List UInt8)} {t l : List UInt8} {k : Nat} (ht : t ≠ []) (h : atF L t = some k) (hl : L[k]? = some l) (f o : Nat) (acc : List Int) :
  readGo L (f + 1) t o acc = readGo L f (t.drop l.length) (o + l.length) (acc ++ [(k : Int)]) := by
 simp [readGo, h, ht, hl]

end Go.Proofs.YthachfkcgdfdfaaGreatDoor

/- Walk of the reference's 'formed' on alphabets (gazetteerref10). -/
namespace Go.Proofs.YthachfkcgdfdfaaGreatDoor
open Go.RowKit Classical

def printC (c : UInt8) : Bool := decide (33 ≤ c.toNat) && decide (c.toNat ≤ 126) && (c.toNat != 34)
def printB (l : List UInt8) : Bool := l.all printC
theorem printC_yes {c : UInt8} (h1 : (33 : Int) ≤ (c.toNat : Int)) (h2 : (c.toNat : Int) ≤ 126) (h3 : ((c.toNat : Int) == 34) = false) : printC c = true := by
 simp at h3; simp [printC]; omega
theorem printC_no {c : UInt8} (h : (c.toNat : Int) < 33 ∨ (126 : Int) < (c.toNat : Int) ∨ ((c.toNat : Int) == 34) = true) : printC c = false := by
 simp at h; simp [printC]; omega

def Formed10 (A : Alph) : Prop :=
 nameB (bl A.name) = true ∧ 1 ≤ A.letters.length ∧ A.letters.length ≤ 64 ∧ A.small.length = A.letters.length ∧
 (∀ l ∈ A.letters, 1 ≤ l.size ∧ l.size ≤ 3 ∧ printB (bl l) = true) ∧ (∀ z ∈ A.small, 0 ≤ z ∧ z < A.letters.length) ∧ A.letters.Nodup ∧
 (∀ (i : Nat) z, A.small[i]? = some z → A.small[z.toNat]? = some z)

end Go.Proofs.YthachfkcgdfdfaaGreatDoor

/- Walk of the reference's 'Valid' on alphabets (gazetteerref10), and what a valid alphabet gives. -/
namespace Go.Proofs.YthachfkcgdfdfaaGreatDoor
open Go.RowKit Classical

def Valid10 (A : Alph) : Prop :=
 Formed10 A ∧ ∀ (i k : Nat) l m, i ≠ k → A.letters[i]? = some l → A.letters[k]? = some m → bl m <+: bl l → ¬ Follows A.bls ((bl l).drop m.size)

theorem Formed10.pos {A : Alph} (h : Formed10 A) : ∀ l ∈ A.letters, 1 ≤ l.size := fun l hl => (h.2.2.2.2.1 l hl).1
theorem Formed10.len {A : Alph} (h : Formed10 A) : ∀ l ∈ A.bls, 1 ≤ l.length ∧ l.length ≤ 3 := fun l hl => by
 obtain ⟨m, hm, rfl⟩ := List.mem_map.1 hl
 have := h.2.2.2.2.1 m hm
 rw [bl_length]; omega
theorem Formed10.nodup {A : Alph} (h : Formed10 A) : A.bls.Nodup :=
 List.pairwise_map.2 (h.2.2.2.2.2.2.1.imp fun hne e => hne (bl_inj e))

end Go.Proofs.YthachfkcgdfdfaaGreatDoor

/- Walks of the reference's rules (gazetteerref11). -/
namespace Go.Proofs.YthachfkcgdfdfaaGreatDoor
open Go.RowKit Classical

theorem eql_rule (x y : Rul) (w : World) : (binOp .eql 103 (.agg #[.string x.src, .string x.dst, .string x.nxt, .bool x.fin]) (.agg #[.string y.src, .string y.dst, .string y.nxt, .bool y.fin])).run Tryz.prog w = .ok (.bool (decide (x = y))) w := by
 have hS : Tryz.prog.underlying 103 = some (.struct (Tryz.prog.fieldsOf 103)) := by kernel_rfl
 have hp : Tryz.prog.stoodInHeld 103 = false := by kernel_rfl
 rw [run_eql_struct, show (10000 : Nat) = 9999 + 1 from rfl, run_equalIn_agg w 9999 103 _ _ hS hp]
 simp only [Program.fieldsOf, Tryz.underlying103]
 go_simp
 have hb : ∀ a b : ByteArray, a.toList = b.toList ↔ a = b := fun a b => by
  rw [ByteArray.toList_eq, ByteArray.toList_eq]
  exact ⟨fun h => bl_inj h, fun h => by rw [h]⟩
 obtain ⟨a, b, c, d⟩ := x
 obtain ⟨a', b', c', d'⟩ := y
 simp only [Rul.mk.injEq]
 simp only [hb]
 by_cases h1 : a = a' <;> by_cases h2 : b = b' <;> by_cases h3 : c = c' <;> simp [h1, h2, h3]
 by_cases h4 : d = d' <;> simp [h4]
/-- 'plain': from a to b bytes, each printable. -/
def Plain11 (s : ByteArray) (a b : Nat) : Prop := printB (bl s) = true ∧ a ≤ s.size ∧ s.size ≤ b

end Go.Proofs.YthachfkcgdfdfaaGreatDoor
/- M0 · M1 · Ch -/
/- Maps of the call's own, as lists of pairs of values, at whatever type of keys: look-up, store, range. -/
namespace Go.Proofs.YthachfkcgdfdfaaGreatDoor
open Go.RowKit Classical
open Go.MapKept (Stamped)
open Go.ChangeMaps (setBlock)

/-- Where a key stands among entries. -/
noncomputable def plainFind (k : Value) : List MapEntry → Nat → Option (Nat × Value)
 | [], _ => none
 | e :: es, i => if k = e.key then some (i, e.val) else plainFind k es (i + 1)

/-- What the model does with keys of a type, for keys that are Ok. -/
structure KeyT (P : Program) (k : TypeId) (Ok : Value → Prop) : Prop where
 check : ∀ em (w : World) v, Ok v → (Instr.checkKey em 10000 k v).run P w = .ok () w
 bits : ∀ v, Ok v → Instr.sameBits 10000 v v = true
 find : ∀ (w : World) key (es : List MapEntry), Ok key → (∀ x ∈ es, Ok x.key) → (Instr.findKey k key es).run P w = .ok (plainFind key es 0) w

theorem plainFind_none {k : Value} : ∀ {es : List MapEntry} {i : Nat}, (∀ x ∈ es, x.key ≠ k) → plainFind k es i = none
 | [], _, _ => rfl
 | e :: es, i, h => by
  rw [plainFind, if_neg (fun he => h e (by simp) he.symm)]
  exact plainFind_none (fun x hx => h x (by simp [hx]))
theorem plainFind_some {k : Value} : ∀ {es : List MapEntry} {i j : Nat} {e : MapEntry}, es[j]? = some e → e.key = k → (es.map (·.key)).Nodup → plainFind k es i = some (i + j, e.val)
 | [], _, _, _, h, _, _ => by simp at h
 | a :: es, i, j, e, h, hk, hn => by
  rw [plainFind]
  cases j with
  | zero => simp at h; subst h; rw [if_pos hk.symm]; rfl
  | succ j =>
   rw [List.getElem?_cons_succ] at h
   have hn' := List.nodup_cons.1 hn
   rw [if_neg, plainFind_some (i := i + 1) h hk hn'.2]
   ·congr 2; omega
   ·intro he
    refine hn'.1 (List.mem_map.2 ⟨e, List.mem_of_getElem? h, hk.trans he⟩)

theorem keyT_plain {P : Program} {k : TypeId} {d : TypeDesc} (hk : P.underlying k = some d) : KeyT P k (fun v => MapKept.IsKey d v) where
 check := fun em w v hv => MapKept.run_checkKey hk hv em 9999
 bits := fun v hv => MapKept.sameBits_self hv _
 find := fun w key es hkey hes => by
  refine MapKept.run_findKey hk ?_
  have : ∀ (es : List MapEntry) (i : Nat), (∀ x ∈ es, MapKept.IsKey d x.key) → Instr.findNow d key es i = some (plainFind key es i) := by
   intro es
   induction es with
   | nil => intro i _; rfl
   | cons e es ih =>
    intro i h
    obtain ⟨r, hr, hiff⟩ := MapKept.sameNow_of_keys hkey (h e (by simp))
    rw [Instr.findNow, hr, plainFind]
    cases r with
    | true => rw [if_pos (hiff.1 rfl)]
    | false =>
     rw [if_neg (fun he => by have := hiff.2 he; cases this)]
     exact ih _ (fun x hx => h x (by simp [hx]))
  exact this es 0 hes

/-- Structs: the model asks '==' of the key and each entry's key. -/
theorem keyT_struct {P : Program} {k : TypeId} {Ok : Value → Prop} {d : TypeDesc} (hk : P.underlying k = some d) (hd : ∀ a b, Ok a → Ok b → Instr.sameNow d a b = none)
  (hc : ∀ em (w : World) v, Ok v → (Instr.checkKey em 10000 k v).run P w = .ok () w) (hb : ∀ v, Ok v → Instr.sameBits 10000 v v = true)
  (he : ∀ (w : World) a b, Ok a → Ok b → (Op.equal k a b).run P w = .ok (decide (a = b)) w) : KeyT P k Ok where
 check := hc
 bits := hb
 find := fun w key es hkey hes => by
  have hA : ∀ (es : List MapEntry) (i : Nat), (∀ x ∈ es, Ok x.key) → (Instr.findAsking k key es i).run P w = .ok (plainFind key es i) w := by
   intro es
   induction es with
   | nil => intro i _; simp [Instr.findAsking, plainFind]
   | cons e es ih =>
    intro i h
    rw [Instr.findAsking, plainFind]
    simp only [Sem.run_bind, he w _ _ hkey (h e (by simp)), Result.andThen_ok]
    by_cases hke : key = e.key
    ·simp [hke]
    ·simp [hke, ih (i + 1) (fun x hx => h x (by simp [hx]))]
  rw [Instr.findKey]
  simp only [Sem.run_bind, run_underlying hk, Result.andThen_ok]
  cases es with
  | nil => simp [Instr.findNow, plainFind]
  | cons e es =>
   rw [Instr.findNow, hd _ _ hkey (hes e (by simp))]
   exact hA _ _ hes

/-- Block b is a map that holds the pairs l, in the order in which they came. -/
def MapIs (w : World) (b : Nat) (Ok : Value → Prop) (l : List (Value × Value)) : Prop :=
 ∃ es clock, w.heap[b]? = some (.map es clock) ∧ Stamped es clock ∧ (∀ x ∈ es.toList, Ok x.key) ∧ es.toList.map (fun x => (x.key, x.val)) = l

section
variable {P : Program} {w : World} {b : Nat} {Ok : Value → Prop} {l : List (Value × Value)} {k e t : TypeId}

theorem MapIs.lt (h : MapIs w b Ok l) : b < w.heap.size := by
 obtain ⟨es, clock, hb, _⟩ := h
 exact (Array.getElem?_eq_some_iff.1 hb).1
theorem MapIs.block {w' : World} (h : MapIs w b Ok l) (hb : w'.heap[b]? = w.heap[b]?) : MapIs w' b Ok l := by
 obtain ⟨es, clock, h1, h2⟩ := h
 exact ⟨es, clock, hb.trans h1, h2⟩
theorem MapIs.below {w' : World} {B : Nat} (h : MapIs w b Ok l) (hb : Below B w w') (hB : b < B) : MapIs w' b Ok l := h.block (hb.block b hB)
theorem MapIs.grown {w' : World} {row : Option Nat} (h : MapIs w b Ok l) (hg : w.grownBy w' row) (hne : some b ≠ row) : MapIs w' b Ok l := h.block (hg.block b h.lt hne)
theorem MapIs.alloc (h : MapIs w b Ok l) (o : Obj) : MapIs (w.alloc o) b Ok l := h.block ((MapKept.heap_alloc w o).2 b h.lt)
theorem MapIs.drew (h : MapIs w b Ok l) : MapIs w.drew b Ok l := h
theorem MapIs.drewN (h : MapIs w b Ok l) (n : Nat) : MapIs (w.drewN n) b Ok l := h
theorem MapIs.setCell (h : MapIs w b Ok l) {p : Addr} (hp : p.block ≠ b) (v : Value) : MapIs (w.setCell p v) b Ok l := by
 exact h.block (RowKit.Below.heap_setCell _ _ _ _ (Ne.symm hp))
theorem MapIs.nodup (h : MapIs w b Ok l) : (l.map (·.1)).Nodup := by
 obtain ⟨es, clock, _, hs, _, rfl⟩ := h
 have := hs.2.2
 simpa [List.map_map, Function.comp_def] using this
theorem MapIs.ok (h : MapIs w b Ok l) : ∀ p ∈ l, Ok p.1 := by
 obtain ⟨es, clock, _, _, hk, rfl⟩ := h
 intro p hp
 obtain ⟨x, hx, rfl⟩ := List.mem_map.1 hp
 exact hk x hx
theorem MapIs.made (w : World) (Ok : Value → Prop) : MapIs (w.alloc (.map #[] 0)) w.heap.size Ok [] :=
 ⟨#[], 0, heap_alloc_new w _, MapKept.stamped_empty 0, by simp, rfl⟩

theorem MapIs.look_none (h : MapIs w b Ok l) (K : KeyT P k Ok) (ht : P.underlying t = some (.map k e)) {z : Value} (hz : (zeroValue e).run P w = .ok z w) {key : Value} (hkey : Ok key) (hno : ∀ p ∈ l, p.1 ≠ key) (c : Bool) :
  (Instr.lookup t (.map (some b)) key c).run P w = .ok (if c then .tuple #[z, .bool false] else z) w := by
 obtain ⟨es, clock, hb, hs, hk, rfl⟩ := h
 have hf : plainFind key es.toList 0 = none := plainFind_none (fun x hx => hno (x.key, x.val) (List.mem_map.2 ⟨x, hx, rfl⟩))
 simp [Instr.lookup, run_underlying ht, MapKept.run_getObj_map hb, K.check _ w key hkey, K.find w key es.toList hkey hk, hf, hz]
theorem MapIs.look_some (h : MapIs w b Ok l) (K : KeyT P k Ok) (ht : P.underlying t = some (.map k e)) {key v : Value} (hin : (key, v) ∈ l) (c : Bool) :
  (Instr.lookup t (.map (some b)) key c).run P w = .ok (if c then .tuple #[v, .bool true] else v) w := by
 have hkey : Ok key := h.ok _ hin
 obtain ⟨es, clock, hb, hs, hk, rfl⟩ := h
 obtain ⟨x, hx, he⟩ := List.mem_map.1 hin
 obtain ⟨j, hj⟩ := List.getElem?_of_mem hx
 have hf : plainFind key es.toList 0 = some (0 + j, x.val) := plainFind_some hj (congrArg Prod.fst he) hs.2.2
 have hv : x.val = v := congrArg Prod.snd he
 simp [Instr.lookup, run_underlying ht, MapKept.run_getObj_map hb, K.check _ w key hkey, K.find w key es.toList hkey hk, hf, hv]

theorem grownBy_setBlock (w : World) (b : Nat) (o : Obj) : w.grownBy (setBlock w b o) (some b) :=
 ⟨rfl, rfl, rfl, by simp [setBlock], fun i _ hne => by simp only [setBlock]; rw [Array.getElem?_setIfInBounds_ne]; intro e; exact hne (by rw [e])⟩

theorem MapIs.put_new (h : MapIs w b Ok l) (K : KeyT P k Ok) (ht : P.underlying t = some (.map k e)) {key : Value} (hkey : Ok key) (hno : ∀ p ∈ l, p.1 ≠ key) (v : Value) :
  ∃ w', (Instr.mapUpdate t (.map (some b)) key v).run P w = .ok () w' ∧ MapIs w' b Ok (l ++ [(key, v)]) ∧ w.grownBy w' (some b) ∧ w'.heap.size = w.heap.size := by
 obtain ⟨es, clock, hb, hs, hk, rfl⟩ := h
 have hno' : ∀ x ∈ es.toList, x.key ≠ key := fun x hx => hno (x.key, x.val) (List.mem_map.2 ⟨x, hx, rfl⟩)
 have hf : plainFind key es.toList 0 = none := plainFind_none hno'
 have hlt := (Array.getElem?_eq_some_iff.1 hb).1
 refine ⟨setBlock w b (.map (es.push (MapEntry.mk key v clock)) (clock + 1)), ?_, ⟨es.push (MapEntry.mk key v clock), clock + 1, by simp [setBlock, hlt], MapKept.stamped_push hs hno', ?_, by simp⟩, grownBy_setBlock _ _ _, by simp [setBlock]⟩
 ·simp [Instr.mapUpdate, run_underlying ht, MapKept.run_getObj_map hb, K.check _ w key hkey, K.find w key es.toList hkey hk, hf, MapKept.run_setObj_map _ hb, setBlock]
 ·intro x hx
  simp at hx
  rcases hx with hx | rfl
  ·exact hk x (by simpa using hx)
  ·exact hkey
theorem map_modify_pairs : ∀ (es : List MapEntry) (j : Nat) (x : MapEntry) (v : Value), es[j]? = some x → (es.map (·.key)).Nodup →
  (es.modify j (fun e => MapEntry.mk x.key v e.born)).map (fun e => (e.key, e.val)) = (es.map (fun e => (e.key, e.val))).map (fun p => if p.1 = x.key then (x.key, v) else p)
 | [], _, _, _, h, _ => by simp at h
 | a :: es, 0, x, v, h, hn => by
  simp at h; subst h
  have hn' := List.nodup_cons.1 hn
  simp only [List.modify_zero_cons, List.map_cons, if_true, List.map_map]
  congr 1
  refine List.map_congr_left (fun y hy => ?_)
  simp only [Function.comp_apply]
  rw [if_neg (fun he => hn'.1 (List.mem_map.2 ⟨y, hy, he⟩))]
 | a :: es, j + 1, x, v, h, hn => by
  rw [List.getElem?_cons_succ] at h
  have hn' := List.nodup_cons.1 hn
  simp only [List.modify_succ_cons, List.map_cons]
  rw [map_modify_pairs es j x v h hn'.2]
  congr 1
  rw [if_neg (fun he => hn'.1 (List.mem_map.2 ⟨x, List.mem_of_getElem? h, he.symm⟩))]
theorem MapIs.put_old (h : MapIs w b Ok l) (K : KeyT P k Ok) (ht : P.underlying t = some (.map k e)) {key v0 : Value} (hin : (key, v0) ∈ l) (v : Value) :
  ∃ w', (Instr.mapUpdate t (.map (some b)) key v).run P w = .ok () w' ∧ MapIs w' b Ok (l.map (fun p => if p.1 = key then (key, v) else p)) ∧ w.grownBy w' (some b) ∧ w'.heap.size = w.heap.size := by
 have hkey : Ok key := h.ok _ hin
 obtain ⟨es, clock, hb, hs, hk, rfl⟩ := h
 obtain ⟨x, hx, he⟩ := List.mem_map.1 hin
 obtain ⟨j, hj⟩ := List.getElem?_of_mem hx
 have hxk : x.key = key := congrArg Prod.fst he
 have hf : plainFind key es.toList 0 = some (0 + j, x.val) := plainFind_some hj hxk hs.2.2
 have hlt := (Array.getElem?_eq_some_iff.1 hb).1
 have hj' : es[j]? = some x := by rw [← Array.getElem?_toList]; exact hj
 refine ⟨setBlock w b (.map (es.modify j fun e => MapEntry.mk x.key v e.born) clock), ?_, ⟨es.modify j fun e => MapEntry.mk x.key v e.born, clock, by simp [setBlock, hlt], MapKept.stamped_modify hs j _ (fun _ _ => rfl) (fun e _ he => by rw [hj'] at he; cases he; rfl), ?_, ?_⟩, grownBy_setBlock _ _ _, by simp [setBlock]⟩
 ·have hst : (Instr.keyThatStays key key).run P w = .ok key w := by simp [Instr.keyThatStays, K.bits key hkey]
  simp [Instr.mapUpdate, run_underlying ht, MapKept.run_getObj_map hb, K.check _ w key hkey, K.find w key es.toList hkey hk, hf, hj', hxk, hst, MapKept.run_setObj_map _ hb, setBlock]
 ·intro y hy
  simp only [Array.toList_modify] at hy
  obtain ⟨i, hi⟩ := List.getElem?_of_mem hy
  rw [List.getElem?_modify] at hi
  cases hei : es.toList[i]? with
  | none => simp [hei] at hi
  | some z =>
   rw [hei] at hi
   by_cases hji : j = i
   ·simp [hji] at hi; rw [← hi]; exact hk x hx
   ·simp [hji] at hi; rw [← hi]; exact hk z (List.mem_of_getElem? hei)
 ·simp only [Array.toList_modify]
  rw [map_modify_pairs _ _ _ _ hj hs.2.2, hxk]

/-- 'for k, v := range m' under way; left: what is still to come. -/
def RangeIs (w : World) (b r : Nat) (Ok : Value → Prop) (l left : List (Value × Value)) : Prop :=
 ∃ es clock since seen c0, w.heap[b]? = some (.map es clock) ∧ Stamped es clock ∧ (∀ x ∈ es.toList, Ok x.key) ∧ es.toList.map (fun x => (x.key, x.val)) = l ∧
  w.heap[r]? = some (.mapIter (some b) since seen c0) ∧ (∀ x ∈ es.toList, x.born < since) ∧ since ≤ c0 ∧ since ≤ clock ∧ (leftOf es seen).toList.map (fun x => (x.key, x.val)) = left
theorem RangeIs.isMap {r : Nat} {left : List (Value × Value)} (h : RangeIs w b r Ok l left) : MapIs w b Ok l := by
 obtain ⟨es, clock, _, _, _, h1, h2, h3, h4, _⟩ := h
 exact ⟨es, clock, h1, h2, h3, h4⟩
theorem RangeIs.lt {r : Nat} {left : List (Value × Value)} (h : RangeIs w b r Ok l left) : r < w.heap.size := by
 obtain ⟨es, clock, _, _, _, _, _, _, _, h1, _⟩ := h
 exact (Array.getElem?_eq_some_iff.1 h1).1
theorem RangeIs.blocks {w' : World} {r : Nat} {left : List (Value × Value)} (h : RangeIs w b r Ok l left) (hb : w'.heap[b]? = w.heap[b]?) (hr : w'.heap[r]? = w.heap[r]?) : RangeIs w' b r Ok l left := by
 obtain ⟨es, clock, since, seen, c0, h1, h2, h3, h4, h5, h6⟩ := h
 exact ⟨es, clock, since, seen, c0, hb.trans h1, h2, h3, h4, hr.trans h5, h6⟩
theorem RangeIs.grown {w' : World} {r : Nat} {left : List (Value × Value)} {row : Option Nat} (h : RangeIs w b r Ok l left) (hg : w.grownBy w' row) (hb : some b ≠ row) (hr : some r ≠ row) : RangeIs w' b r Ok l left :=
 h.blocks (hg.block b h.isMap.lt hb) (hg.block r h.lt hr)
theorem RangeIs.below {w' : World} {r : Nat} {left : List (Value × Value)} {B : Nat} (h : RangeIs w b r Ok l left) (hg : Below B w w') (hb : b < B) (hr : r < B) : RangeIs w' b r Ok l left :=
 h.blocks (hg.block b hb) (hg.block r hr)
theorem RangeIs.setCell {r : Nat} {left : List (Value × Value)} (h : RangeIs w b r Ok l left) {p : Addr} (hp : p.block ≠ b) (hp' : p.block ≠ r) (v : Value) : RangeIs (w.setCell p v) b r Ok l left := by
 exact h.blocks (RowKit.Below.heap_setCell _ _ _ _ (Ne.symm hp)) (RowKit.Below.heap_setCell _ _ _ _ (Ne.symm hp'))

theorem MapIs.range (h : MapIs w b Ok l) (ht : P.underlying t = some (.map k e)) :
  ∃ o, (Instr.range t (.map (some b))).run P w = .ok (.pointer (some ⟨w.heap.size, 0, none⟩)) (w.alloc o) ∧ RangeIs (w.alloc o) b w.heap.size Ok l l := by
 have hlt := h.lt
 obtain ⟨es, clock, hb, hs, hk, rfl⟩ := h
 refine ⟨_, run_range_map w t k e b es clock ht hb, ⟨es, clock, clock, #[], clock, ((MapKept.heap_alloc w _).2 b hlt).trans hb, hs, hk, rfl, heap_alloc_new w _, hs.1, Nat.le_refl _, Nat.le_refl _, ?_⟩⟩
 simp only [leftOf]; rw [Array.filter_eq_self.2 (by simp)]

theorem RangeIs.next {r : Nat} {left : List (Value × Value)} (h : RangeIs w b r Ok l left) (ty : TypeId) :
  (left = [] ∧ (Instr.next (.pointer (some ⟨r, 0, none⟩)) false ty).run P w = .ok (.tuple #[.bool false]) w) ∨
  ∃ A p B w', left = A ++ p :: B ∧ (Instr.next (.pointer (some ⟨r, 0, none⟩)) false ty).run P w = .ok (.tuple #[.bool true, p.1, p.2]) w' ∧ RangeIs w' b r Ok l (A ++ B) ∧
   w.grownBy w' (some r) ∧ w'.heap.size = w.heap.size ∧ (Instr.entry (.pointer (some ⟨r, 0, none⟩))).run P w' = .ok (.tuple #[p.1, p.2]) w' := by
 obtain ⟨es, clock, since, seen, c0, hb, hs, hk, hl, hr, hold, hsc, hcl, rfl⟩ := h
 rcases run_next_at (P := P) w ty r b since c0 seen es clock hr hb hold hsc with ⟨h0, hrun⟩ | ⟨x, hx, w1, hw1, hrun⟩
 ·left
  refine ⟨?_, hrun⟩
  rw [Array.eq_empty_of_size_eq_zero h0]; rfl
 ·right
  have hr1 : w1.heap[r]? = some (.mapIter (some b) since seen c0) := by rcases hw1 with rfl | rfl <;> exact hr
  have hb1 : w1.heap[b]? = some (.map es clock) := by rcases hw1 with rfl | rfl <;> exact hb
  have hne : b ≠ r := fun e => by rw [e, hr] at hb; cases hb
  have hrlt := (Array.getElem?_eq_some_iff.1 hr1).1
  have hxes : x ∈ es.toList := by
   simp [leftOf] at hx ⊢; exact hx.1
  obtain ⟨A, B, hAB⟩ := List.append_of_mem hx
  have hnd : ((leftOf es seen).toList.map (·.born)).Nodup := by
   have : (leftOf es seen).toList.Sublist es.toList := by simp [leftOf]
   exact (this.map _).nodup hs.2.1
  have hleft : (leftOf es (seen.push x.born)).toList = A ++ B := by
   have : (leftOf es (seen.push x.born)).toList = (leftOf es seen).toList.filter (fun e => e.born != x.born) := by
    simp only [leftOf, Array.toList_filter, List.filter_filter]
    refine List.filter_congr (fun e _ => ?_)
    rw [Bool.eq_iff_iff]; simp [and_comm]
   rw [this, hAB, List.filter_append, List.filter_cons_of_neg (by simp)]
   rw [hAB] at hnd
   simp only [List.map_append, List.map_cons] at hnd
   have h1 := List.nodup_append.1 hnd
   have h2 := List.nodup_cons.1 h1.2.1
   rw [List.filter_eq_self.2, List.filter_eq_self.2]
   ·intro y hy; simp; intro e; exact h2.1 (List.mem_map.2 ⟨y, hy, e⟩)
   ·intro y hy; simp; intro e; exact h1.2.2 _ (List.mem_map.2 ⟨y, hy, rfl⟩) _ (by simp) e
  have hr2 : (setBlock w1 r (.mapIter (some b) since (seen.push x.born) clock)).heap[r]? = some (.mapIter (some b) since (seen.push x.born) clock) := by simp [setBlock, hrlt]
  have hb2 : (setBlock w1 r (.mapIter (some b) since (seen.push x.born) clock)).heap[b]? = some (.map es clock) := by
   simp only [setBlock]; rw [Array.getElem?_setIfInBounds_ne (Ne.symm hne)]; exact hb1
  refine ⟨A.map (fun x => (x.key, x.val)), (x.key, x.val), B.map (fun x => (x.key, x.val)), _, by rw [hAB]; simp, hrun, ⟨es, clock, since, seen.push x.born, clock, hb2, hs, hk, hl, hr2, hold, hcl, hcl, by rw [hleft]; simp⟩, ?_, ?_, ?_⟩
  ·rcases hw1 with rfl | rfl
   ·exact grownBy_setBlock _ _ _
   ·exact ⟨rfl, rfl, rfl, by simp [setBlock], fun i _ hne => by simp only [setBlock]; rw [Array.getElem?_setIfInBounds_ne]; rfl; intro e; exact hne (by rw [e])⟩
  ·rcases hw1 with rfl | rfl <;> simp [setBlock]
  ·exact run_entry_at _ r b since seen es clock x hr2 hb2 hxes hs.2.1
end

/-- Block b is a set (a map whose elements are true) with the keys ks. -/
def SetIs (w : World) (b : Nat) (Ok : Value → Prop) (ks : List Value) : Prop := MapIs w b Ok (ks.map (fun v => (v, .bool true)))
noncomputable def addV (ks : List Value) (v : Value) : List Value := if v ∈ ks then ks else ks ++ [v]
section
variable {P : Program} {w : World} {b : Nat} {Ok : Value → Prop} {ks : List Value} {k e t : TypeId}
theorem SetIs.nodup (h : SetIs w b Ok ks) : ks.Nodup := by have := MapIs.nodup h; simpa [List.map_map, Function.comp_def] using this
theorem SetIs.made (w : World) (Ok : Value → Prop) : SetIs (w.alloc (.map #[] 0)) w.heap.size Ok [] := MapIs.made w Ok
theorem SetIs.look (h : SetIs w b Ok ks) (K : KeyT P k Ok) (ht : P.underlying t = some (.map k e)) (hz : (zeroValue e).run P w = .ok (.bool false) w) {key : Value} (hkey : Ok key) :
  (Instr.lookup t (.map (some b)) key false).run P w = .ok (.bool (decide (key ∈ ks))) w := by
 by_cases hm : key ∈ ks
 ·rw [MapIs.look_some h K ht (key := key) (v := .bool true) (List.mem_map.2 ⟨key, hm, rfl⟩) false]
  simp [hm]
 ·rw [MapIs.look_none h K ht hz hkey (fun p hp he => by
   obtain ⟨v, hv, rfl⟩ := List.mem_map.1 hp
   exact hm (he ▸ hv)) false]
  simp [hm]
theorem SetIs.put (h : SetIs w b Ok ks) (K : KeyT P k Ok) (ht : P.underlying t = some (.map k e)) {key : Value} (hkey : Ok key) :
  ∃ w', (Instr.mapUpdate t (.map (some b)) key (.bool true)).run P w = .ok () w' ∧ SetIs w' b Ok (addV ks key) ∧ w.grownBy w' (some b) ∧ w'.heap.size = w.heap.size := by
 by_cases hm : key ∈ ks
 ·obtain ⟨w', h1, h2, h3⟩ := MapIs.put_old h K ht (key := key) (v0 := .bool true) (List.mem_map.2 ⟨key, hm, rfl⟩) (.bool true)
  refine ⟨w', h1, ?_, h3⟩
  rw [addV, if_pos hm]
  have e : ks.map (fun v => (v, Value.bool true)) = (ks.map (fun v => (v, Value.bool true))).map (fun p => if p.1 = key then (key, .bool true) else p) := by
   rw [List.map_map]
   refine List.map_congr_left (fun y _ => ?_)
   simp only [Function.comp_apply]
   split
   ·rename_i he; rw [he]
   ·rfl
  unfold SetIs
  rw [e]
  exact h2
 ·obtain ⟨w', h1, h2, h3⟩ := MapIs.put_new h K ht hkey (fun p hp he => by
   obtain ⟨v, hv, rfl⟩ := List.mem_map.1 hp
   exact hm (he ▸ hv)) (.bool true)
  refine ⟨w', h1, ?_, h3⟩
  rw [addV, if_neg hm]
  unfold SetIs
  rw [List.map_append]
  exact h2
end

end Go.Proofs.YthachfkcgdfdfaaGreatDoor

/- Keys of maps: strings, ints, rules, arcs, places. -/
namespace Go.Proofs.YthachfkcgdfdfaaGreatDoor
open Go.RowKit Classical

def OkStr (v : Value) : Prop := MapKept.IsKey .string v
def OkInt (v : Value) : Prop := MapKept.IsKey (.int .i64) v
theorem okStr (s : ByteArray) : OkStr (.string s) := trivial
theorem okInt (x : Int) : OkInt (.int .i64 x) := rfl
theorem keyStr : KeyT Tryz.prog 9 OkStr := keyT_plain Tryz.underlying9
theorem keyInt : KeyT Tryz.prog 3 OkInt := keyT_plain Tryz.underlying3

def ruleV (x : Rul) : Value := .agg #[.string x.src, .string x.dst, .string x.nxt, .bool x.fin]
def OkRule (v : Value) : Prop := ∃ x, v = ruleV x
theorem ruleV_inj {x y : Rul} (h : ruleV x = ruleV y) : x = y := by
 cases x; cases y; simpa [ruleV] using h
theorem ruleV_eq {x y : Rul} : ruleV x = ruleV y ↔ x = y := ⟨ruleV_inj, fun h => by rw [h]⟩

theorem check_str (em : Bool) (w : World) (s : ByteArray) : (Instr.checkKey em 9999 9 (.string s)).run Tryz.prog w = .ok () w := MapKept.run_checkKey (d := .string) (k := .string s) Tryz.underlying9 trivial em 9998
theorem check_int (em : Bool) (w : World) (x : Int) : (Instr.checkKey em 9999 3 (.int .i64 x)).run Tryz.prog w = .ok () w := MapKept.run_checkKey (d := .int .i64) (k := .int .i64 x) Tryz.underlying3 rfl em 9998
theorem check_bool (em : Bool) (w : World) (x : Bool) : (Instr.checkKey em 9999 4 (.bool x)).run Tryz.prog w = .ok () w := MapKept.run_checkKey (d := .bool) (k := .bool x) Tryz.underlying4 trivial em 9998
theorem equal_of_eql {T : TypeId} {xs ys : Array Value} {w : World} {p : Prop} [Decidable p] (h : (binOp .eql T (.agg xs) (.agg ys)).run Tryz.prog w = .ok (.bool (decide p)) w) :
  (Op.equal T (.agg xs) (.agg ys)).run Tryz.prog w = .ok (decide p) w := by
 rw [run_eql_struct] at h
 unfold Op.equal Op.maxDepth
 generalize (Op.equalIn 10000 T (.agg xs) (.agg ys)).run Tryz.prog w = r at h ⊢
 cases r with
 | ok b w1 => simp [Result.andThen] at h; rw [← h.2]; congr 1; simp [← h.1]
 | halt x w1 => simp [Result.andThen] at h

set_option maxRecDepth 100000 in
theorem keyRule : KeyT Tryz.prog 103 OkRule := by
 have hS : Tryz.prog.underlying 103 = some (.struct (Tryz.prog.fieldsOf 103)) := by kernel_rfl
 refine keyT_struct hS ?_ ?_ ?_ ?_
 ·rintro _ _ ⟨x, rfl⟩ ⟨y, rfl⟩; rfl
 ·rintro em w _ ⟨x, rfl⟩
  unfold ruleV
  rw [show (10000 : Nat) = 9998 + 1 + 1 from rfl, Instr.checkKey]
  simp only [Sem.run_bind, run_underlying Tryz.underlying103, Result.andThen_ok]
  rw [← Array.forIn_toList]
  go_simp
  simp only [check_str, check_bool, Result.andThen_ok]
 ·rintro _ ⟨x, rfl⟩
  have hb := fun a : ByteArray => (MapKept.bytes_beq a a).2 rfl
  simp [ruleV, Instr.sameBits, hb]
 ·rintro w _ _ ⟨x, rfl⟩ ⟨y, rfl⟩
  have := equal_of_eql (eql_rule x y w)
  rw [show (Op.equal 103 (ruleV x) (ruleV y)).run Tryz.prog w = .ok (decide (x = y)) w from this]
  congr 1
  rw [decide_eq_decide, ruleV_eq]

def arcV (x : Arc) : Value := .agg #[.int .i64 x.frm, .int .i64 x.inp, .int .i64 x.out, .int .i64 x.to]
def OkArc (v : Value) : Prop := ∃ x, v = arcV x
theorem arcV_inj {x y : Arc} (h : arcV x = arcV y) : x = y := by
 cases x; cases y; simpa [arcV] using h
theorem arcV_eq {x y : Arc} : arcV x = arcV y ↔ x = y := ⟨arcV_inj, fun h => by rw [h]⟩

set_option maxRecDepth 100000 in
theorem keyArc : KeyT Tryz.prog 177 OkArc := by
 have hS : Tryz.prog.underlying 177 = some (.struct (Tryz.prog.fieldsOf 177)) := by kernel_rfl
 refine keyT_struct hS ?_ ?_ ?_ ?_
 ·rintro _ _ ⟨x, rfl⟩ ⟨y, rfl⟩; rfl
 ·rintro em w _ ⟨x, rfl⟩
  unfold arcV
  rw [show (10000 : Nat) = 9998 + 1 + 1 from rfl, Instr.checkKey]
  simp only [Sem.run_bind, run_underlying Tryz.underlying177, Result.andThen_ok]
  rw [← Array.forIn_toList]
  go_simp
  simp only [check_int, Result.andThen_ok]
 ·rintro _ ⟨x, rfl⟩
  have hb := fun a : ByteArray => (MapKept.bytes_beq a a).2 rfl
  simp [arcV, Instr.sameBits]
 ·rintro w _ _ ⟨x, rfl⟩ ⟨y, rfl⟩
  have := equal_of_eql (eql_arc x y w)
  rw [show (Op.equal 177 (arcV x) (arcV y)).run Tryz.prog w = .ok (decide (x = y)) w from this]
  congr 1
  rw [decide_eq_decide, arcV_eq]

/-- A place: a state, a text. -/
structure Plc where
 st : Int
 tx : ByteArray
def plcV (x : Plc) : Value := .agg #[.int .i64 x.st, .string x.tx]
def OkPlc (v : Value) : Prop := ∃ x, v = plcV x
theorem plcV_inj {x y : Plc} (h : plcV x = plcV y) : x = y := by
 cases x; cases y; simpa [plcV] using h
theorem plcV_eq {x y : Plc} : plcV x = plcV y ↔ x = y := ⟨plcV_inj, fun h => by rw [h]⟩
theorem eql_plc (x y : Plc) (w : World) : (binOp .eql 165 (.agg #[.int .i64 x.st, .string x.tx]) (.agg #[.int .i64 y.st, .string y.tx])).run Tryz.prog w = .ok (.bool (decide (x = y))) w := by
 have hS : Tryz.prog.underlying 165 = some (.struct (Tryz.prog.fieldsOf 165)) := by kernel_rfl
 have hp : Tryz.prog.stoodInHeld 165 = false := by kernel_rfl
 rw [run_eql_struct, show (10000 : Nat) = 9999 + 1 from rfl, run_equalIn_agg w 9999 165 _ _ hS hp]
 simp only [Program.fieldsOf, Tryz.underlying165]
 go_simp
 have hb : ∀ a b : ByteArray, a.toList = b.toList ↔ a = b := fun a b => by
  rw [ByteArray.toList_eq, ByteArray.toList_eq]
  exact ⟨fun h => bl_inj h, fun h => by rw [h]⟩
 obtain ⟨a, b⟩ := x
 obtain ⟨a', b'⟩ := y
 simp only [Plc.mk.injEq]
 simp only [hb]
 by_cases h1 : a = a' <;> by_cases h2 : b = b' <;> simp [h1, h2]

set_option maxRecDepth 100000 in
theorem keyPlc : KeyT Tryz.prog 165 OkPlc := by
 have hS : Tryz.prog.underlying 165 = some (.struct (Tryz.prog.fieldsOf 165)) := by kernel_rfl
 refine keyT_struct hS ?_ ?_ ?_ ?_
 ·rintro _ _ ⟨x, rfl⟩ ⟨y, rfl⟩; rfl
 ·rintro em w _ ⟨x, rfl⟩
  unfold plcV
  rw [show (10000 : Nat) = 9998 + 1 + 1 from rfl, Instr.checkKey]
  simp only [Sem.run_bind, run_underlying Tryz.underlying165, Result.andThen_ok]
  rw [← Array.forIn_toList]
  go_simp
  simp only [check_str, check_int, Result.andThen_ok]
 ·rintro _ ⟨x, rfl⟩
  have hb := fun a : ByteArray => (MapKept.bytes_beq a a).2 rfl
  simp [plcV, Instr.sameBits, hb]
 ·rintro w _ _ ⟨x, rfl⟩ ⟨y, rfl⟩
  have := equal_of_eql (eql_plc x y w)
  rw [show (Op.equal 165 (plcV x) (plcV y)).run Tryz.prog w = .ok (decide (x = y)) w from this]
  congr 1
  rw [decide_eq_decide, plcV_eq]

end Go.Proofs.YthachfkcgdfdfaaGreatDoor

/- What a call may turn: all blocks lie as they lay but those in a set. -/
namespace Go.Proofs.YthachfkcgdfdfaaGreatDoor
open Go.RowKit Classical

/-- Whatever lay lies as it lay, but for the blocks in S. -/
structure Chg (S : Nat → Prop) (w w' : World) : Prop where
 os : w'.os = w.os
 tape : w'.tape = w.tape
 output : w'.output = w.output
 size : w.heap.size ≤ w'.heap.size
 block : ∀ k, k < w.heap.size → ¬ S k → w'.heap[k]? = w.heap[k]?
section
variable {S : Nat → Prop} {w w' w'' : World}
theorem Chg.refl (S : Nat → Prop) (w : World) : Chg S w w := ⟨rfl, rfl, rfl, Nat.le_refl _, fun _ _ _ => rfl⟩
theorem Chg.trans (h : Chg S w w') (k : Chg S w' w'') : Chg S w w'' :=
 ⟨k.os.trans h.os, k.tape.trans h.tape, k.output.trans h.output, Nat.le_trans h.size k.size, fun i hi hS => (k.block i (Nat.lt_of_lt_of_le hi h.size) hS).trans (h.block i hi hS)⟩
theorem Chg.mono {S' : Nat → Prop} (h : Chg S w w') (hS : ∀ k, S k → S' k) : Chg S' w w' := ⟨h.os, h.tape, h.output, h.size, fun k hk hn => h.block k hk (fun hs => hn (hS k hs))⟩
theorem Chg.of_below (S : Nat → Prop) (h : Below w.heap.size w w') : Chg S w w' := ⟨h.os, h.tape, h.output, h.size, fun k hk _ => h.block k hk⟩
theorem Chg.of_grown {row : Option Nat} (h : w.grownBy w' row) (hr : ∀ r, row = some r → S r ∨ w.heap.size ≤ r) : Chg S w w' :=
 ⟨h.os, h.tape, h.output, h.size, fun k hk hS => h.block k hk (fun e => (hr k e.symm).elim hS (fun h => by omega))⟩
theorem Chg.setCell (w : World) {p : Addr} (hp : S p.block ∨ w.heap.size ≤ p.block) (v : Value) : Chg S w (w.setCell p v) :=
 ⟨rfl, rfl, rfl, by simp [World.setCell], fun k hk hS => Below.heap_setCell w p v k (fun e => by subst e; exact hp.elim hS (fun h => by omega))⟩
theorem Chg.alloc (S : Nat → Prop) (w : World) (o : Obj) : Chg S w (w.alloc o) := .of_below S ((Below.refl _ w).alloc (Nat.le_refl _) o)
theorem Chg.drewN (S : Nat → Prop) (w : World) (n : Nat) : Chg S w (w.drewN n) := ⟨rfl, rfl, rfl, Nat.le_refl _, fun _ _ _ => rfl⟩
theorem Chg.below {B : Nat} (h : Chg S w w') (hS : ∀ k, S k → B ≤ k) (hB : B ≤ w.heap.size) : Below B w w' :=
 ⟨h.os, h.tape, h.output, h.size, fun k hk => h.block k (by omega) (fun hs => by have := hS k hs; omega)⟩
theorem Blk.chg {b : Nat} {cs : Array Value} {t : TypeId} (h : Blk w b cs t) (hc : Chg S w w') (hS : ¬ S b) : Blk w' b cs t := (hc.block b h.lt hS).trans h
theorem MapIs.chg {b : Nat} {Ok : Value → Prop} {l : List (Value × Value)} (h : MapIs w b Ok l) (hc : Chg S w w') (hS : ¬ S b) : MapIs w' b Ok l := h.block (hc.block b h.lt hS)
theorem own_chg {base : Nat} {e : TypeId} {size n : Nat} {v : Value} {xs : List Value} (h : w.ownsRow base e size v n xs) (hc : Chg S w w') (hS : ∀ g, v.ownBlock = some g → ¬ S g) : w'.ownsRow base e size v n xs := by
 obtain ⟨hl, h1⟩ := h
 rcases h1 with ⟨rfl, rfl⟩ | ⟨g, cap, cur, rfl, hb, hh, r1, r2, r3, r4⟩
 ·exact ⟨hl, .inl ⟨rfl, rfl⟩⟩
 ·exact ⟨hl, .inr ⟨g, cap, cur, rfl, hb, (hc.block g (Array.getElem?_eq_some_iff.1 hh).1 (hS g rfl)).trans hh, r1, r2, r3, r4⟩⟩
end

end Go.Proofs.YthachfkcgdfdfaaGreatDoor
