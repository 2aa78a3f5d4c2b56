/- EX · CZ · E10 -/
import Derived.Test.YtfihjpffjdnahaaGreatDoorEA
import Derived.Test.YtfihjpffjdnahaaGreatDoorD5
import Derived.Test.YtfihjpffjdnahaaGreatDoorD6
import Derived.Test.YtfihjpffjdnahaaGreatDoorD8
import Derived.Test.YtfihjpffjdnahaaGreatDoorGP
/- What holds in a world and in all that come of it; variables that hold machines. -/
namespace Go.Proofs.YtfihjpffjdnahaaGreatDoor
open Go.RowKit Classical

/-- What holds in a world and in all that come of it. -/
def Stays (w0 : World) (P : World → Prop) : Prop := ∀ w, Below w0.heap.size w0 w → P w
section
variable {w w' : World} {P Q : World → Prop}
theorem Stays.self (w : World) : Stays w (fun x => Below w.heap.size w x) := fun _ h => h
theorem Stays.now (h : Stays w P) : P w := h w (Below.refl _ _)
theorem Stays.move (h : Stays w P) (hb : Below w.heap.size w w') : Stays w' P := fun x hx => h x (hb.trans (hx.mono hb.size))
theorem Stays.and (h : Stays w P) (k : Stays w Q) : Stays w (fun x => P x ∧ Q x) := fun x hx => ⟨h x hx, k x hx⟩
theorem Stays.alloc (h : Stays w P) (o : Obj) : Stays (w.alloc o) P := h.move ((Below.refl _ _).alloc (Nat.le_refl _) o)
theorem Stays.drew (h : Stays w P) : Stays w.drew P := h.move (Below.refl _ _).drew
theorem Stays.drewN (h : Stays w P) (k : Nat) : Stays (w.drewN k) P := h.move (below_dn (Below.refl _ _) _)
theorem stays_mach {v : Value} {M : Mach} (h : MachAt w w.heap.size v M) : Stays w (fun x => MachAt x x.heap.size v M) := fun _ hx => (h.below hx (Nat.le_refl _)).more hx.size
theorem stays_alph {v : Value} {A : Alph} (h : AlphAt w w.heap.size v A) : Stays w (fun x => AlphAt x x.heap.size v A) := fun _ hx => (h.below hx (Nat.le_refl _)).more hx.size
theorem stays_row {a : Option Addr} {xs : List Value} (h : RowAt w w.heap.size a xs) : Stays w (fun x => RowAt x x.heap.size a xs) := fun _ hx => (h.below hx (Nat.le_refl _)).more hx.size
theorem stays_blk {b : Nat} {cs : Array Value} {t : TypeId} (h : Blk w b cs t) : Stays w (fun x => Blk x b cs t) := fun _ hx => h.below hx h.lt
end

/-- A variable that holds a machine, with its parts. -/
def MX (w : World) (b : Nat) (fa : Option Addr) (fc : Nat) (aa : Option Addr) (ac : Nat) (M : Mach) : Prop := Blk w b #[.int .i64 M.states, .int .i64 M.start, .slice fa M.final.length fc, .slice aa M.arcs.length ac] 25 ∧
 MachAt w w.heap.size (.agg #[.int .i64 M.states, .int .i64 M.start, .slice fa M.final.length fc, .slice aa M.arcs.length ac]) M
/-- A variable that holds an alphabet, with its parts. -/
def AX (w : World) (b : Nat) (la : Option Addr) (lc : Nat) (sa : Option Addr) (sc : Nat) (A : Alph) : Prop := Blk w b #[.string A.name, .slice la A.letters.length lc, .slice sa A.small.length sc] 28 ∧
 AlphAt w w.heap.size (.agg #[.string A.name, .slice la A.letters.length lc, .slice sa A.small.length sc]) A
section
variable {w w' : World} {P : World → Prop} {b : Nat} {fa aa la sa : Option Addr} {fc ac lc sc : Nat} {M : Mach} {A : Alph}
theorem MX.below (h : MX w b fa fc aa ac M) (hb : Below w.heap.size w w') : MX w' b fa fc aa ac M := ⟨h.1.below hb h.1.lt, (h.2.below hb (Nat.le_refl _)).more hb.size⟩
theorem MX.c0 (h : MX w b fa fc aa ac M) : w.cell? ⟨b, 0, none⟩ = some (.int .i64 M.states) := h.1.cell 0
theorem MX.c1 (h : MX w b fa fc aa ac M) : w.cell? ⟨b, 1, none⟩ = some (.int .i64 M.start) := h.1.cell 1
theorem MX.c2 (h : MX w b fa fc aa ac M) : w.cell? ⟨b, 2, none⟩ = some (.slice fa M.final.length fc) := h.1.cell 2
theorem MX.c3 (h : MX w b fa fc aa ac M) : w.cell? ⟨b, 3, none⟩ = some (.slice aa M.arcs.length ac) := h.1.cell 3
theorem MX.mach (h : MX w b fa fc aa ac M) : MachAt w w.heap.size (.agg #[.int .i64 M.states, .int .i64 M.start, .slice fa M.final.length fc, .slice aa M.arcs.length ac]) M := h.2
theorem MX.lt (h : MX w b fa fc aa ac M) : b < w.heap.size := h.1.lt
theorem AX.below (h : AX w b la lc sa sc A) (hb : Below w.heap.size w w') : AX w' b la lc sa sc A := ⟨h.1.below hb h.1.lt, (h.2.below hb (Nat.le_refl _)).more hb.size⟩
theorem AX.c0 (h : AX w b la lc sa sc A) : w.cell? ⟨b, 0, none⟩ = some (.string A.name) := h.1.cell 0
theorem AX.c1 (h : AX w b la lc sa sc A) : w.cell? ⟨b, 1, none⟩ = some (.slice la A.letters.length lc) := h.1.cell 1
theorem AX.c2 (h : AX w b la lc sa sc A) : w.cell? ⟨b, 2, none⟩ = some (.slice sa A.small.length sc) := h.1.cell 2
theorem AX.alph (h : AX w b la lc sa sc A) : AlphAt w w.heap.size (.agg #[.string A.name, .slice la A.letters.length lc, .slice sa A.small.length sc]) A := h.2
theorem AX.lt (h : AX w b la lc sa sc A) : b < w.heap.size := h.1.lt
/-- A new variable. -/
theorem Stays.put (h : Stays w P) (hm : Stays w (fun x => MachAt x x.heap.size (.agg #[.int .i64 M.states, .int .i64 M.start, .slice fa M.final.length fc, .slice aa M.arcs.length ac]) M)) {b : Nat} (hb : w.heap.size = b) :
  Stays (w.alloc (.cells #[.int .i64 M.states, .int .i64 M.start, .slice fa M.final.length fc, .slice aa M.arcs.length ac] 25)) (fun x => MX x b fa fc aa ac M ∧ P x) :=
 fun x hx => ⟨⟨hb ▸ (Blk.new _ _ _).below hx (Blk.new _ _ _).lt, (hm.alloc _) x hx⟩, (h.alloc _) x hx⟩
theorem Stays.putA (h : Stays w P) (hm : Stays w (fun x => AlphAt x x.heap.size (.agg #[.string A.name, .slice la A.letters.length lc, .slice sa A.small.length sc]) A)) {b : Nat} (hb : w.heap.size = b) :
  Stays (w.alloc (.cells #[.string A.name, .slice la A.letters.length lc, .slice sa A.small.length sc] 28)) (fun x => AX x b la lc sa sc A ∧ P x) :=
 fun x hx => ⟨⟨hb ▸ (Blk.new _ _ _).below hx (Blk.new _ _ _).lt, (hm.alloc _) x hx⟩, (h.alloc _) x hx⟩
end

/- The arguments of few. -/
section
variable {w : World} {b b1 b2 b3 : Nat} {t : TypeId} {fa1 aa1 fa2 aa2 fa3 aa3 : Option Addr} {fc1 ac1 fc2 ac2 fc3 ac3 : Nat} {M1 M2 M3 : Mach}
theorem mrow2 (h : Blk w b #[.int .i64 M1.states, .int .i64 M1.start, .slice fa1 M1.final.length fc1, .slice aa1 M1.arcs.length ac1, .int .i64 M2.states, .int .i64 M2.start, .slice fa2 M2.final.length fc2, .slice aa2 M2.arcs.length ac2] t) (h1 : MX w b1 fa1 fc1 aa1 ac1 M1) (h2 : MX w b2 fa2 fc2 aa2 ac2 M2) : MRow w b 0 [M1, M2] := fun k hk => by
 match k, hk with
 | 0, _ => exact ⟨fa1, fc1, aa1, ac1, h.cell 0, h.cell 1, h.cell 2, h.cell 3, h1.2⟩
 | 1, _ => exact ⟨fa2, fc2, aa2, ac2, h.cell 4, h.cell 5, h.cell 6, h.cell 7, h2.2⟩
end
theorem Stays.gen {w w' : World} {P : World → Prop} (h : Stays w P) (e : w = w') : Stays w' P := e ▸ h
theorem Stays.weak {w : World} {P Q : World → Prop} (h : Stays w P) (k : ∀ x, P x → Q x) : Stays w Q := fun x hx => k x (h x hx)
/-- A machine that is written out, and a variable that holds it. -/
theorem Stays.lit {w : World} {P : World → Prop} (h : Stays w P) (M : Mach) (hf : M.final.length ≤ maxLen) (ha : M.arcs.length ≤ maxLen) :
  Stays (((w.alloc (.cells (nums M.final).toArray 3)).alloc (.cells (flat M.arcs).toArray 40)).alloc
   (.cells #[.int .i64 M.states, .int .i64 M.start, .slice (some ⟨w.heap.size, 0, none⟩) M.final.length M.final.length, .slice (some ⟨w.heap.size + 1, 0, none⟩) M.arcs.length M.arcs.length] 25))
   (fun x => MX x (w.heap.size + 2) (some ⟨w.heap.size, 0, none⟩) M.final.length (some ⟨w.heap.size + 1, 0, none⟩) M.arcs.length M ∧ P x) := by
 have k0 : Stays _ (fun x => Blk x w.heap.size (nums M.final).toArray 3) := (stays_blk (Blk.new w (nums M.final).toArray 3)).alloc (.cells (flat M.arcs).toArray 40)
 have k1 : Stays ((w.alloc (.cells (nums M.final).toArray 3)).alloc (.cells (flat M.arcs).toArray 40)) (fun x => Blk x (w.heap.size + 1) (flat M.arcs).toArray 40) :=
  stays_blk (by have := Blk.new (w.alloc (.cells (nums M.final).toArray 3)) (flat M.arcs).toArray 40; simpa using this)
 have := ((h.alloc (.cells (nums M.final).toArray 3)).alloc (.cells (flat M.arcs).toArray 40)).put
  (M := M) (fa := some ⟨w.heap.size, 0, none⟩) (fc := M.final.length) (aa := some ⟨w.heap.size + 1, 0, none⟩) (ac := M.arcs.length)
  (fun x hx => ⟨_, _, _, _, rfl, hf, ha, row_of_blk (xs := nums M.final) (k0 x hx), row_of_blk (xs := flat M.arcs) (k1 x hx)⟩) (b := w.heap.size + 2) (by simp)
 exact this
end Go.Proofs.YtfihjpffjdnahaaGreatDoor

/- Plain words: what the laws of layer 14 ask, case by case, of small machines. No program in sight. -/
namespace Go.Proofs.YtfihjpffjdnahaaGreatDoor
open Go Classical

section
variable {K M N : Mach}
theorem FewM.small (h : FewM M) (hv : ValidM M) : M.states ≤ 8 ∧ M.arcs.length ≤ 14 := ⟨h.states hv, h.2.1⟩
end
/-- The results that were found behind some of the first machine's results. -/
def JInv (N : Mach) (l : List ByteArray) (k : Nat) (found : List ByteArray) : Prop := found.Nodup ∧ ∀ t, t ∈ found ↔ ∃ u ∈ l.take k, Result N (bl u) t
def JIn (N : Mach) (l : List ByteArray) (k : Nat) (z : List ByteArray) (j : Nat) (found : List ByteArray) : Prop := found.Nodup ∧ ∀ t, t ∈ found ↔ (∃ u ∈ l.take k, Result N (bl u) t) ∨ t ∈ z.take j
noncomputable def addT (found : List ByteArray) (t : ByteArray) : List ByteArray := if t ∈ found then found else found ++ [t]
section
variable {N : Mach} {l z all found : List ByteArray} {k j : Nat}
theorem JInv.zero : JInv N l 0 [] := ⟨by simp, fun t => by simp⟩
theorem JInv.inner (h : JInv N l k found) : JIn N l k z 0 found := ⟨h.1, fun t => by rw [h.2]; simp⟩
theorem JIn.step (h : JIn N l k z j found) (hj : j < z.length) : JIn N l k z (j + 1) (addT found z[j]) := by
 have ht : z.take (j + 1) = z.take j ++ [z[j]] := by rw [List.take_add_one, List.getElem?_eq_getElem hj]; rfl
 unfold addT
 by_cases hm : z[j] ∈ found
 ·rw [if_pos hm]
  refine ⟨h.1, fun t => ?_⟩
  rw [h.2, ht, List.mem_append, List.mem_singleton]
  constructor
  ·rintro (q | q)
   ·exact .inl q
   ·exact .inr (.inl q)
  ·rintro (q | q | rfl)
   ·exact .inl q
   ·exact .inr q
   ·exact (h.2 _).1 hm
 ·rw [if_neg hm]
  refine ⟨List.nodup_append.2 ⟨h.1, by simp, fun a ha b hb e => by
   obtain rfl : b = z[j] := by simpa using hb
   exact hm (e ▸ ha)⟩, fun t => ?_⟩
  rw [List.mem_append, h.2, ht, List.mem_append, List.mem_singleton]
  constructor
  ·rintro ((q | q) | q)
   ·exact .inl q
   ·exact .inr (.inl q)
   ·exact .inr (.inr q)
  ·rintro (q | q | q)
   ·exact .inl (.inl q)
   ·exact .inl (.inr q)
   ·exact .inr q
theorem JIn.done (h : JIn N l k z z.length found) (hk : k < l.length) (hz : ∀ t, t ∈ z ↔ Result N (bl l[k]) t) : JInv N l (k + 1) found := by
 have ht : l.take (k + 1) = l.take k ++ [l[k]] := by rw [List.take_add_one, List.getElem?_eq_getElem hk]; rfl
 refine ⟨h.1, fun t => ?_⟩
 rw [h.2, ht, List.take_length, hz]
 constructor
 ·rintro (⟨u, q, q'⟩ | q)
  ·exact ⟨u, List.mem_append.2 (.inl q), q'⟩
  ·exact ⟨_, List.mem_append.2 (.inr (List.mem_singleton.2 rfl)), q⟩
 ·rintro ⟨u, q, q'⟩
  rcases List.mem_append.1 q with q | q
  ·exact .inl ⟨u, q, q'⟩
  ·rw [List.mem_singleton.1 q] at q'; exact .inr q'
theorem JIn.le (h : JIn N l k z j found) (hk : k < l.length) (hz : ∀ t, t ∈ z ↔ Result N (bl l[k]) t) (hm : ∀ t, t ∈ all ↔ ∃ u ∈ l, Result N (bl u) t) : found.length ≤ all.length := nodup_len h.1 (fun t ht => by
 rw [hm]
 rcases (h.2 t).1 ht with ⟨u, q, q'⟩ | q
 ·exact ⟨u, List.take_subset _ _ q, q'⟩
 ·exact ⟨_, List.getElem_mem hk, (hz t).1 (List.take_subset _ _ q)⟩)
theorem JInv.le (h : JInv N l k found) (hm : ∀ t, t ∈ all ↔ ∃ u ∈ l, Result N (bl u) t) : found.length ≤ all.length := nodup_len h.1 (fun t ht => by
 obtain ⟨u, q, q'⟩ := (h.2 t).1 ht
 exact (hm t).2 ⟨u, List.take_subset _ _ q, q'⟩)
theorem JInv.done (h : JInv N l l.length found) (hs : SortedB all) (hm : ∀ t, t ∈ all ↔ ∃ u ∈ l, Result N (bl u) t) : found.length = all.length :=
 same_len h.1 hs.nodup (fun t => by rw [h.2, List.take_length, hm])
end
end Go.Proofs.YtfihjpffjdnahaaGreatDoor

/- Walk: gazetteerlaw14.head. -/
namespace Go.Proofs.YtfihjpffjdnahaaGreatDoor
open Go.RowKit Classical

theorem head_valid1 : ValidM firstM := valid_of (by decide) (by decide) (by decide) (by decide) (by decide)
theorem head_valid2 : ValidM secondM := valid_of (by decide) (by decide) (by decide) (by decide) (by decide)
theorem head_comp {C : Mach} {err : Int} (h : CompOut firstM secondM C err) : err = 0 ∧ C = wantC := by
 have he := h.small head_valid1 head_valid2 (by decide) (by decide) (by decide) (by decide)
 rcases h with ⟨n, _, _⟩ | ⟨hM, hN, S, hS, ⟨b, h2, _⟩ | ⟨b, h2, h3⟩⟩
 ·exact absurd ⟨head_valid1, head_valid2⟩ n
 ·omega
 ·exact ⟨h2, composed_want ⟨_, (raw_comp hM hN hS b).1, h3⟩⟩
theorem head_union {U : Mach} {err : Int} (h : UnionOut firstM firstM U err) : err = 0 ∧ U = wantBoth := by
 rcases h.cases with ⟨_, n, _⟩ | ⟨_, _, _, _, h | h⟩ | ⟨h1, _, _, hU, _⟩
 ·exact absurd ⟨head_valid1, head_valid1⟩ n
 ·exact absurd h (by decide)
 ·exact absurd h (by decide)
 ·exact ⟨h1, union_want hU⟩
theorem head_none {C : Mach} {err : Int} (h : CompOut zeroM firstM C err) : err = 1 ∧ C = zeroM := by
 rcases h.cases with ⟨h1, _, h2⟩ | ⟨_, h, _⟩ | ⟨_, h, _⟩
 ·exact ⟨h1, h2⟩
 ·exact absurd h zeroM_not
 ·exact absurd h zeroM_not
theorem bl_tx (l : List UInt8) : bl (tx l) = l := by simp [tx, bl]
theorem tx_size (l : List UInt8) : (tx l).size = l.length := by rw [← bl_length, bl_tx]
def headA : Alph := ⟨tx [112], [tx [97], tx [98, 99]], [0, 1]⟩
theorem headA_valid : Valid10 headA := by
 refine ⟨⟨by simp only [headA, bl_tx]; decide, by simp [headA], by simp [headA], by simp [headA], ?_, ?_, ?_, ?_⟩, ?_⟩
 ·intro l hl
  simp [headA] at hl
  rcases hl with rfl | rfl <;> (rw [tx_size, bl_tx]; exact ⟨by decide, by decide, by decide⟩)
 ·intro z hz
  simp [headA] at hz
  rcases hz with rfl | rfl <;> simp [headA]
 ·simp only [headA, List.nodup_cons, List.mem_cons, List.not_mem_nil, or_false, List.nodup_nil, and_true]
  refine ⟨fun h => ?_, fun h => h⟩
  have := congrArg bl h
  rw [bl_tx, bl_tx] at this
  cases this
 ·intro i z hi
  have h1 : i < 2 := (List.getElem?_eq_some_iff.1 hi).1
  have h2 : i = 0 ∨ i = 1 := by omega
  rcases h2 with rfl | rfl <;> (simp [headA] at hi; subst hi; rfl)
 ·intro i k l m hne hl hm hp
  have h1 : i < 2 := (List.getElem?_eq_some_iff.1 hl).1
  have h2 : k < 2 := (List.getElem?_eq_some_iff.1 hm).1
  have h3 : i = 0 ∨ i = 1 := by omega
  have h4 : k = 0 ∨ k = 1 := by omega
  rcases h3 with rfl | rfl <;> rcases h4 with rfl | rfl <;> first | exact absurd rfl hne | (simp [headA] at hl hm; subst hl; subst hm; rw [bl_tx, bl_tx] at hp; simp at hp)
theorem head_copy {C : Mach} {err : Int} (h : CopyOut headA C err) : err = 0 ∧ C = wantCopy := by
 rcases h with ⟨n, _, _⟩ | ⟨_, h1, h2⟩
 ·exact absurd headA_valid n
 ·refine ⟨h1, copy_want ?_⟩
  have e : headA.bls = [[97], [98, 99]] := by simp [headA, Alph.bls, bl_tx]
  rw [← e]; exact h2
theorem head_runs {ts : List ByteArray} {err : Int} (h : RunsOf wantC (bl ⟨#[97]⟩) ts err) : err = 0 ∧ ts = [tx [117, 119], tx [118], tx [118, 117]] := want_run h

/-- An alphabet that is written out. -/
theorem Stays.litA {w : World} {P : World → Prop} (h : Stays w P) (A : Alph) (hn : A.name.size ≤ maxLen) (hl : A.letters.length ≤ maxLen) (hs : A.small.length ≤ maxLen) (hls : ∀ s ∈ A.letters, s.size ≤ maxLen) :
  Stays ((w.alloc (.cells (strs A.letters).toArray 9)).alloc (.cells (nums A.small).toArray 3))
   (fun x => AlphAt x x.heap.size (.agg #[.string A.name, .slice (some ⟨w.heap.size, 0, none⟩) A.letters.length A.letters.length, .slice (some ⟨w.heap.size + 1, 0, none⟩) A.small.length A.small.length]) A ∧ P x) := by
 have k0 : Stays _ (fun x => Blk x w.heap.size (strs A.letters).toArray 9) := (stays_blk (Blk.new w (strs A.letters).toArray 9)).alloc (.cells (nums A.small).toArray 3)
 have k1 : Stays ((w.alloc (.cells (strs A.letters).toArray 9)).alloc (.cells (nums A.small).toArray 3)) (fun x => Blk x (w.heap.size + 1) (nums A.small).toArray 3) :=
  stays_blk (by have := Blk.new (w.alloc (.cells (strs A.letters).toArray 9)) (nums A.small).toArray 3; simpa using this)
 exact fun x hx => ⟨⟨_, _, _, _, rfl, hn, hl, hs, hls, row_of_blk (xs := strs A.letters) (k0 x hx), row_of_blk (xs := nums A.small) (k1 x hx)⟩, ((h.alloc _).alloc _) x hx⟩
/-- Texts that are written out. -/
theorem Stays.litS {w : World} {P : World → Prop} (h : Stays w P) (ts : List ByteArray) :
  Stays (w.alloc (.cells (strs ts).toArray 9)) (fun x => RowAt x x.heap.size (some ⟨w.heap.size, 0, none⟩) (strs ts) ∧ P x) := by
 have k0 : Stays _ (fun x => Blk x w.heap.size (strs ts).toArray 9) := stays_blk (Blk.new w (strs ts).toArray 9)
 exact fun x hx => ⟨row_of_blk (xs := strs ts) (k0 x hx), (h.alloc _) x hx⟩

set_option maxRecDepth 100000 in
set_option maxHeartbeats 4000000 in
theorem head14_any (w : World) :
  Calls Tryz.prog 4 #[] w fun e w' => e = .returned (.bool true) ∧ Below w.heap.size w w' := by
 have F0 := Lib.hid (Stays.self w)
 go_enter Tryz.func4, Tryz.ntmps4
 go_wp2_with fail
 refine (first14_any w).mono ?_
 rintro e w1 ⟨⟨v1, rfl, hm1⟩, hb1⟩
 have F1 := Lib.hid ((F0.out.move hb1).and (stays_mach hm1))
 clear hm1 hb1 F0
 go_wp2_with fail
 refine (second14_any w1).mono ?_
 rintro e w2 ⟨⟨v2, rfl, hm2⟩, hb2⟩
 have F2 := Lib.hid ((F1.out.move hb2).and (stays_mach hm2))
 clear hm2 hb2 F1
 go_wp2_with fail
 refine (Compose_any firstM secondM _ _ w2 F2.out.now.1.2 F2.out.now.2).mono ?_
 rintro e w3 ⟨v3, C, err, rfl, hm3, hb3, hC⟩
 obtain ⟨rfl, rfl⟩ := head_comp hC
 clear hC
 have G3 := Lib.hid (stays_mach hm3)
 obtain ⟨fa, fc, aa, ac, rfl, -, -, -, -⟩ := hm3
 have F3 := Lib.hid (((F2.out.move hb3).weak fun _ h => h.1.1).put G3.out rfl)
 clear F2 G3 hb3
 go_upto_region 2 with (fail)
 generalize hW4 : (w3.alloc _) = W4
 have F4 := Lib.hid (F3.out.gen hW4)
 have hs4 : w3.heap.size < W4.heap.size := by rw [← hW4]; simp
 clear F3 hW4
 go_upto_region 3 with (fail)
 generalize hW5 : (((W4.alloc _).alloc _).alloc _) = W5
 have F5 := Lib.hid ((F4.out.lit wantC (by decide) (by decide)).gen hW5)
 clear F4 hW5
 obtain ⟨-, kc, -⟩ := F5.out.now
 have c0 := kc.c0
 have c1 := kc.c1
 have c2 := kc.c2
 have c3 := kc.c3
 have mc := kc.mach
 clear kc
 go_wp2_with fail
 refine (Runs_any wantC _ ⟨#[97]⟩ (by decide) W5 mc).mono ?_
 rintro e w6 ⟨vr, l, f, rfl, ⟨pl, cl, rfl, hr⟩, hb6, hr1⟩
 obtain ⟨rfl, rfl⟩ := head_runs hr1
 clear hr1 c0 c1 c2 c3 mc
 have F6 := Lib.hid (((F5.out.move hb6).and (stays_row hr)).weak fun _ h => And.intro h.2 h.1)
 clear F5 hb6 hr
 go_upto_region 4 with (fail)
 go_wp2_with fail
 generalize hW7 : ((w6.alloc _).alloc _) = W7
 have F7 := Lib.hid ((F6.out.litA headA (by decide) (by decide) (by decide) (by decide)).gen hW7)
 clear F6 hW7
 refine (Copy_any headA _ W7 F7.out.now.1).mono ?_
 rintro e w8 ⟨v8, C, err, rfl, hm8, hb8, hC⟩
 obtain ⟨rfl, rfl⟩ := head_copy hC
 clear hC
 have G8 := Lib.hid (stays_mach hm8)
 obtain ⟨fa2, fc2, aa2, ac2, rfl, -, -, -, -⟩ := hm8
 have F8 := Lib.hid (((F7.out.move hb8).weak fun _ h => h.2).put G8.out rfl)
 clear F7 G8 hb8
 go_upto_region 5 with (fail)
 generalize hW9 : (w8.alloc _) = W9
 have F9 := Lib.hid (F8.out.gen hW9)
 have hs9 : w8.heap.size < W9.heap.size := by rw [← hW9]; simp
 clear F8 hW9
 go_upto_region 6 with (fail)
 generalize hWA : (((W9.alloc _).alloc _).alloc _) = WA
 have FA := Lib.hid ((F9.out.lit wantCopy (by decide) (by decide)).gen hWA)
 clear F9 hWA
 go_wp2_with fail
 refine (first14_any WA).mono ?_
 rintro e wB ⟨⟨vB, rfl, hmB⟩, hbB⟩
 have FB := Lib.hid ((FA.out.move hbB).and (stays_mach hmB))
 clear hmB hbB FA
 go_wp2_with fail
 refine (first14_any wB).mono ?_
 rintro e wC ⟨⟨vC, rfl, hmC⟩, hbC⟩
 have FC := Lib.hid ((FB.out.move hbC).and (stays_mach hmC))
 clear hmC hbC FB
 go_wp2_with fail
 refine (Union_any firstM firstM _ _ wC FC.out.now.1.2 FC.out.now.2).mono ?_
 rintro e wD ⟨vD, U, err, rfl, hmD, hbD, hU⟩
 obtain ⟨rfl, rfl⟩ := head_union hU
 clear hU
 have GD := Lib.hid (stays_mach hmD)
 obtain ⟨fa3, fc3, aa3, ac3, rfl, -, -, -, -⟩ := hmD
 have FD := Lib.hid (((FC.out.move hbD).weak fun _ h => h.1.1).put GD.out rfl)
 clear FC GD hbD
 go_upto_region 7 with (fail)
 generalize hWE : (wD.alloc _) = WE
 have FE := Lib.hid (FD.out.gen hWE)
 have hsE : wD.heap.size < WE.heap.size := by rw [← hWE]; simp
 clear FD hWE
 go_upto_region 8 with (fail)
 generalize hWF : (((WE.alloc _).alloc _).alloc _) = WF
 have FF := Lib.hid ((FE.out.lit wantBoth (by decide) (by decide)).gen hWF)
 clear FE hWF
 go_wp2_with fail
 refine (first14_any WF).mono ?_
 rintro e wG ⟨⟨vG, rfl, hmG⟩, hbG⟩
 have FG := Lib.hid ((FF.out.move hbG).and (stays_mach hmG))
 clear hmG hbG FF
 go_wp2_with fail
 have hz : MachAt wG wG.heap.size (.agg #[.int .i64 0, .int .i64 0, .slice none 0 0, .slice none 0 0]) zeroM := zero_mach _ _
 refine (Compose_any zeroM firstM _ _ wG hz FG.out.now.2).mono ?_
 rintro e wH ⟨vH, Z, err, rfl, hmH, hbH, hZ⟩
 obtain ⟨rfl, rfl⟩ := head_none hZ
 clear hZ hz
 have GH := Lib.hid (stays_mach hmH)
 obtain ⟨fa4, fc4, aa4, ac4, rfl, -, -, -, -⟩ := hmH
 have FH := Lib.hid (((FG.out.move hbH).weak fun _ h => h.1).put GH.out rfl)
 clear FG GH hbH
 go_upto_region 9 with (fail)
 generalize hWI : (wH.alloc _) = WI
 have FI := Lib.hid (FH.out.gen hWI)
 clear FH hWI
 obtain ⟨-, -, -, -, -, -, kd, kc, -⟩ := FI.out.now
 have c0 := kc.c0
 have c1 := kc.c1
 have c2 := kc.c2
 have c3 := kc.c3
 have mc := kc.mach
 have d0 := kd.c0
 have d1 := kd.c1
 have d2 := kd.c2
 have d3 := kd.c3
 have md := kd.mach
 clear kc kd
 have hq := Same12_any wantC wantC _ _ WI mc md
 rw [decide_eq_true rfl] at hq
 have Hq := Lib.hid hq
 clear hq
 go_wp2_with fail
 refine Hq.out.mono ?_
 rintro e wJ ⟨rfl, hb⟩
 have FJ := Lib.hid (FI.out.move hb)
 clear Hq hb FI c0 c1 c2 c3 d0 d1 d2 d3 mc md
 go_wp2_with fail
 generalize hWK : (wJ.alloc _) = WK
 have FK := Lib.hid ((FJ.out.litS [tx [117, 119], tx [118], tx [118, 117]]).gen hWK)
 clear FJ hWK
 obtain ⟨kt, -, -, -, -, -, kl, -, -, -⟩ := FK.out.now
 have hq := Texts12_any [tx [117, 119], tx [118], tx [118, 117]] [tx [117, 119], tx [118], tx [118, 117]] pl _ cl 3 (by decide) WK kl kt
 rw [decide_eq_true rfl] at hq
 have Hq := Lib.hid hq
 clear hq kl kt
 refine Hq.out.mono ?_
 rintro e wL ⟨rfl, hb⟩
 have FL := Lib.hid (FK.out.move hb)
 clear Hq hb FK
 go_upto_region 10 with (fail)
 obtain ⟨-, -, -, -, kd, kc, -, -, -, -⟩ := FL.out.now
 have c0 := kc.c0
 have c1 := kc.c1
 have c2 := kc.c2
 have c3 := kc.c3
 have mc := kc.mach
 have d0 := kd.c0
 have d1 := kd.c1
 have d2 := kd.c2
 have d3 := kd.c3
 have md := kd.mach
 clear kc kd
 have hq := Same12_any wantCopy wantCopy _ _ wL mc md
 rw [decide_eq_true rfl] at hq
 have Hq := Lib.hid hq
 clear hq
 go_wp2_with fail
 refine Hq.out.mono ?_
 rintro e wM ⟨rfl, hb⟩
 have FM := Lib.hid (FL.out.move hb)
 clear Hq hb FL c0 c1 c2 c3 d0 d1 d2 d3 mc md
 obtain ⟨-, -, kd, kc, -, -, -, -, -, -⟩ := FM.out.now
 have c0 := kc.c0
 have c1 := kc.c1
 have c2 := kc.c2
 have c3 := kc.c3
 have mc := kc.mach
 have d0 := kd.c0
 have d1 := kd.c1
 have d2 := kd.c2
 have d3 := kd.c3
 have md := kd.mach
 clear kc kd
 have hq := Same12_any wantBoth wantBoth _ _ wM mc md
 rw [decide_eq_true rfl] at hq
 have Hq := Lib.hid hq
 clear hq
 go_wp2_with fail
 refine Hq.out.mono ?_
 rintro e wN ⟨rfl, hb⟩
 have FN := Lib.hid (FM.out.move hb)
 clear Hq hb FM c0 c1 c2 c3 d0 d1 d2 d3 mc md
 obtain ⟨-, -, -, -, -, -, -, -, -, hbw⟩ := FN.out.now
 go_wp2
 go_ret
 exact ⟨rfl, hbw⟩
end Go.Proofs.YtfihjpffjdnahaaGreatDoor
