/- EX · CZ · E10 -/
import Derived.Test.YtgaldlecnfekaaaGreatDoorEA
import Derived.Test.YtgaldlecnfekaaaGreatDoorD5
import Derived.Test.YtgaldlecnfekaaaGreatDoorD6
import Derived.Test.YtgaldlecnfekaaaGreatDoorD8
import Derived.Test.YtgaldlecnfekaaaGreatDoorRL
/- What holds in a world and in all that come of it; variables that hold machines. -/
namespace Go.Proofs.YtgaldlecnfekaaaGreatDoor
open Go.RowKit Classical

/-- What holds in a world and in all that come of it. -/
def Stays (w0 : World) (P : World → Prop) : Prop := ∀ w, Below w0.heap.size w0 w → P w
section
variable {w w' : World} {P Q : World → Prop}
theorem Stays.self (w : World) : Stays w (fun x => Below w.heap.size w x) := fun _ h => h
theorem Stays.now (h : Stays w P) : P w := h w (Below.refl _ _)
theorem Stays.move (h : Stays w P) (hb : Below w.heap.size w w') : Stays w' P := fun x hx => h x (hb.trans (hx.mono hb.size))
theorem Stays.and (h : Stays w P) (k : Stays w Q) : Stays w (fun x => P x ∧ Q x) := fun x hx => ⟨h x hx, k x hx⟩
theorem Stays.alloc (h : Stays w P) (o : Obj) : Stays (w.alloc o) P := h.move ((Below.refl _ _).alloc (Nat.le_refl _) o)
theorem Stays.drew (h : Stays w P) : Stays w.drew P := h.move (Below.refl _ _).drew
theorem Stays.drewN (h : Stays w P) (k : Nat) : Stays (w.drewN k) P := h.move (below_dn (Below.refl _ _) _)
theorem stays_mach {v : Value} {M : Mach} (h : MachAt w w.heap.size v M) : Stays w (fun x => MachAt x x.heap.size v M) := fun _ hx => (h.below hx (Nat.le_refl _)).more hx.size
theorem stays_alph {v : Value} {A : Alph} (h : AlphAt w w.heap.size v A) : Stays w (fun x => AlphAt x x.heap.size v A) := fun _ hx => (h.below hx (Nat.le_refl _)).more hx.size
theorem stays_row {a : Option Addr} {xs : List Value} (h : RowAt w w.heap.size a xs) : Stays w (fun x => RowAt x x.heap.size a xs) := fun _ hx => (h.below hx (Nat.le_refl _)).more hx.size
theorem stays_blk {b : Nat} {cs : Array Value} {t : TypeId} (h : Blk w b cs t) : Stays w (fun x => Blk x b cs t) := fun _ hx => h.below hx h.lt
end

/-- A variable that holds a machine, with its parts. -/
def MX (w : World) (b : Nat) (fa : Option Addr) (fc : Nat) (aa : Option Addr) (ac : Nat) (M : Mach) : Prop := Blk w b #[.int .i64 M.states, .int .i64 M.start, .slice fa M.final.length fc, .slice aa M.arcs.length ac] 25 ∧
  MachAt w w.heap.size (.agg #[.int .i64 M.states, .int .i64 M.start, .slice fa M.final.length fc, .slice aa M.arcs.length ac]) M
/-- A variable that holds an alphabet, with its parts. -/
def AX (w : World) (b : Nat) (la : Option Addr) (lc : Nat) (sa : Option Addr) (sc : Nat) (A : Alph) : Prop := Blk w b #[.string A.name, .slice la A.letters.length lc, .slice sa A.small.length sc] 28 ∧
  AlphAt w w.heap.size (.agg #[.string A.name, .slice la A.letters.length lc, .slice sa A.small.length sc]) A
section
variable {w w' : World} {P : World → Prop} {b : Nat} {fa aa la sa : Option Addr} {fc ac lc sc : Nat} {M : Mach} {A : Alph}
theorem MX.below (h : MX w b fa fc aa ac M) (hb : Below w.heap.size w w') : MX w' b fa fc aa ac M := ⟨h.1.below hb h.1.lt, (h.2.below hb (Nat.le_refl _)).more hb.size⟩
theorem MX.c0 (h : MX w b fa fc aa ac M) : w.cell? ⟨b, 0, none⟩ = some (.int .i64 M.states) := h.1.cell 0
theorem MX.c1 (h : MX w b fa fc aa ac M) : w.cell? ⟨b, 1, none⟩ = some (.int .i64 M.start) := h.1.cell 1
theorem MX.c2 (h : MX w b fa fc aa ac M) : w.cell? ⟨b, 2, none⟩ = some (.slice fa M.final.length fc) := h.1.cell 2
theorem MX.c3 (h : MX w b fa fc aa ac M) : w.cell? ⟨b, 3, none⟩ = some (.slice aa M.arcs.length ac) := h.1.cell 3
theorem MX.mach (h : MX w b fa fc aa ac M) : MachAt w w.heap.size (.agg #[.int .i64 M.states, .int .i64 M.start, .slice fa M.final.length fc, .slice aa M.arcs.length ac]) M := h.2
theorem MX.lt (h : MX w b fa fc aa ac M) : b < w.heap.size := h.1.lt
theorem AX.below (h : AX w b la lc sa sc A) (hb : Below w.heap.size w w') : AX w' b la lc sa sc A := ⟨h.1.below hb h.1.lt, (h.2.below hb (Nat.le_refl _)).more hb.size⟩
theorem AX.c0 (h : AX w b la lc sa sc A) : w.cell? ⟨b, 0, none⟩ = some (.string A.name) := h.1.cell 0
theorem AX.c1 (h : AX w b la lc sa sc A) : w.cell? ⟨b, 1, none⟩ = some (.slice la A.letters.length lc) := h.1.cell 1
theorem AX.c2 (h : AX w b la lc sa sc A) : w.cell? ⟨b, 2, none⟩ = some (.slice sa A.small.length sc) := h.1.cell 2
theorem AX.alph (h : AX w b la lc sa sc A) : AlphAt w w.heap.size (.agg #[.string A.name, .slice la A.letters.length lc, .slice sa A.small.length sc]) A := h.2
theorem AX.lt (h : AX w b la lc sa sc A) : b < w.heap.size := h.1.lt
/-- A new variable. -/
theorem Stays.put (h : Stays w P) (hm : Stays w (fun x => MachAt x x.heap.size (.agg #[.int .i64 M.states, .int .i64 M.start, .slice fa M.final.length fc, .slice aa M.arcs.length ac]) M)) {b : Nat} (hb : w.heap.size = b) :
    Stays (w.alloc (.cells #[.int .i64 M.states, .int .i64 M.start, .slice fa M.final.length fc, .slice aa M.arcs.length ac] 25)) (fun x => MX x b fa fc aa ac M ∧ P x) :=
  fun x hx => ⟨⟨hb ▸ (Blk.new _ _ _).below hx (Blk.new _ _ _).lt, (hm.alloc _) x hx⟩, (h.alloc _) x hx⟩
theorem Stays.putA (h : Stays w P) (hm : Stays w (fun x => AlphAt x x.heap.size (.agg #[.string A.name, .slice la A.letters.length lc, .slice sa A.small.length sc]) A)) {b : Nat} (hb : w.heap.size = b) :
    Stays (w.alloc (.cells #[.string A.name, .slice la A.letters.length lc, .slice sa A.small.length sc] 28)) (fun x => AX x b la lc sa sc A ∧ P x) :=
  fun x hx => ⟨⟨hb ▸ (Blk.new _ _ _).below hx (Blk.new _ _ _).lt, (hm.alloc _) x hx⟩, (h.alloc _) x hx⟩
end

/- The arguments of few. -/
section
variable {w : World} {b b1 b2 b3 : Nat} {t : TypeId} {fa1 aa1 fa2 aa2 fa3 aa3 : Option Addr} {fc1 ac1 fc2 ac2 fc3 ac3 : Nat} {M1 M2 M3 : Mach}
theorem mrow1 (h : Blk w b #[.int .i64 M1.states, .int .i64 M1.start, .slice fa1 M1.final.length fc1, .slice aa1 M1.arcs.length ac1] t) (h1 : MX w b1 fa1 fc1 aa1 ac1 M1) : MRow w b 0 [M1] := fun k hk => by
  match k, hk with
  | 0, _ => exact ⟨fa1, fc1, aa1, ac1, h.cell 0, h.cell 1, h.cell 2, h.cell 3, h1.2⟩
theorem mrow2 (h : Blk w b #[.int .i64 M1.states, .int .i64 M1.start, .slice fa1 M1.final.length fc1, .slice aa1 M1.arcs.length ac1, .int .i64 M2.states, .int .i64 M2.start, .slice fa2 M2.final.length fc2, .slice aa2 M2.arcs.length ac2] t) (h1 : MX w b1 fa1 fc1 aa1 ac1 M1) (h2 : MX w b2 fa2 fc2 aa2 ac2 M2) : MRow w b 0 [M1, M2] := fun k hk => by
  match k, hk with
  | 0, _ => exact ⟨fa1, fc1, aa1, ac1, h.cell 0, h.cell 1, h.cell 2, h.cell 3, h1.2⟩
  | 1, _ => exact ⟨fa2, fc2, aa2, ac2, h.cell 4, h.cell 5, h.cell 6, h.cell 7, h2.2⟩
theorem mrow3 (h : Blk w b #[.int .i64 M1.states, .int .i64 M1.start, .slice fa1 M1.final.length fc1, .slice aa1 M1.arcs.length ac1, .int .i64 M2.states, .int .i64 M2.start, .slice fa2 M2.final.length fc2, .slice aa2 M2.arcs.length ac2, .int .i64 M3.states, .int .i64 M3.start, .slice fa3 M3.final.length fc3, .slice aa3 M3.arcs.length ac3] t) (h1 : MX w b1 fa1 fc1 aa1 ac1 M1) (h2 : MX w b2 fa2 fc2 aa2 ac2 M2) (h3 : MX w b3 fa3 fc3 aa3 ac3 M3) : MRow w b 0 [M1, M2, M3] := fun k hk => by
  match k, hk with
  | 0, _ => exact ⟨fa1, fc1, aa1, ac1, h.cell 0, h.cell 1, h.cell 2, h.cell 3, h1.2⟩
  | 1, _ => exact ⟨fa2, fc2, aa2, ac2, h.cell 4, h.cell 5, h.cell 6, h.cell 7, h2.2⟩
  | 2, _ => exact ⟨fa3, fc3, aa3, ac3, h.cell 8, h.cell 9, h.cell 10, h.cell 11, h3.2⟩
end
theorem Stays.gen {w w' : World} {P : World → Prop} (h : Stays w P) (e : w = w') : Stays w' P := e ▸ h
theorem Stays.weak {w : World} {P Q : World → Prop} (h : Stays w P) (k : ∀ x, P x → Q x) : Stays w Q := fun x hx => k x (h x hx)
/-- A machine that is written out, and a variable that holds it. -/
theorem Stays.lit {w : World} {P : World → Prop} (h : Stays w P) (M : Mach) (hf : M.final.length ≤ maxLen) (ha : M.arcs.length ≤ maxLen) :
    Stays (((w.alloc (.cells (nums M.final).toArray 3)).alloc (.cells (flat M.arcs).toArray 59)).alloc
      (.cells #[.int .i64 M.states, .int .i64 M.start, .slice (some ⟨w.heap.size, 0, none⟩) M.final.length M.final.length, .slice (some ⟨w.heap.size + 1, 0, none⟩) M.arcs.length M.arcs.length] 25))
      (fun x => MX x (w.heap.size + 2) (some ⟨w.heap.size, 0, none⟩) M.final.length (some ⟨w.heap.size + 1, 0, none⟩) M.arcs.length M ∧ P x) := by
  have k0 : Stays _ (fun x => Blk x w.heap.size (nums M.final).toArray 3) := (stays_blk (Blk.new w (nums M.final).toArray 3)).alloc (.cells (flat M.arcs).toArray 59)
  have k1 : Stays ((w.alloc (.cells (nums M.final).toArray 3)).alloc (.cells (flat M.arcs).toArray 59)) (fun x => Blk x (w.heap.size + 1) (flat M.arcs).toArray 59) :=
    stays_blk (by have := Blk.new (w.alloc (.cells (nums M.final).toArray 3)) (flat M.arcs).toArray 59; simpa using this)
  have := ((h.alloc (.cells (nums M.final).toArray 3)).alloc (.cells (flat M.arcs).toArray 59)).put
    (M := M) (fa := some ⟨w.heap.size, 0, none⟩) (fc := M.final.length) (aa := some ⟨w.heap.size + 1, 0, none⟩) (ac := M.arcs.length)
    (fun x hx => ⟨_, _, _, _, rfl, hf, ha, row_of_blk (xs := nums M.final) (k0 x hx), row_of_blk (xs := flat M.arcs) (k1 x hx)⟩) (b := w.heap.size + 2) (by simp)
  exact this
end Go.Proofs.YtgaldlecnfekaaaGreatDoor

/- Plain words: what the laws of layer 14 ask, case by case, of small machines. No program in sight. -/
namespace Go.Proofs.YtgaldlecnfekaaaGreatDoor
open Go Classical

section
variable {K M N : Mach}
theorem FewM.small (h : FewM M) (hv : ValidM M) : M.states ≤ 8 ∧ M.arcs.length ≤ 14 := ⟨h.states hv, h.2.1⟩
theorem comp_few {C : Mach} {e : Int} (fM : FewM M) (fN : FewM N) (h : CompOut M N C e) : (e = 1 ∧ ¬ (ValidM M ∧ ValidM N) ∧ C = zeroM) ∨ (e = 0 ∧ ValidM M ∧ ValidM N ∧ Composed M N C) := by
  rcases h.cases with h1 | ⟨e2, hM, hN, _⟩ | h1
  · exact .inl h1
  · have := h.small hM hN (fM.small hM).1 (fN.small hN).1 (fM.small hM).2 (fN.small hN).2
    omega
  · exact .inr h1
theorem union_few {U : Mach} {e : Int} (fM : FewM M) (fN : FewM N) (h : UnionOut M N U e) : (e = 1 ∧ ¬ (ValidM M ∧ ValidM N) ∧ U = zeroM) ∨ (e = 0 ∧ ValidM M ∧ ValidM N ∧ UnionM M N U ∧ ValidM U) := by
  rcases h.cases with h1 | ⟨e2, hM, hN, _, h2⟩ | h1
  · exact .inl h1
  · have := fM.small hM
    have := fN.small hN
    omega
  · exact .inr h1
theorem runs_four {x : List UInt8} {ts : List ByteArray} {e : Int} (h : RunsOf M x ts e) (hx : x.length ≤ 400) : (e = 1 ∧ ¬ ValidM M) ∨ (ValidM M ∧ e = 12 ∧ Circle M) ∨ (ValidM M ∧ e = 2 ∧ ¬ Circle M) ∨ (ValidM M ∧ e = 0 ∧ ¬ Circle M) := by
  rcases h with ⟨n, _, e1⟩ | ⟨hv, ⟨c, _, e1⟩ | ⟨nc, ⟨_, _, e1⟩ | ⟨_, e1, _, _⟩⟩⟩
  · exact .inl ⟨e1, fun h => n ⟨h, hx⟩⟩
  · exact .inr (.inl ⟨hv.1, e1, c⟩)
  · exact .inr (.inr (.inl ⟨hv.1, e1, nc⟩))
  · exact .inr (.inr (.inr ⟨hv.1, e1, nc⟩))
/-- The errors where two machines' runs are asked beside what is made of both. -/
theorem both_err {x y : List UInt8} {a b : List ByteArray} {f g e : Int} {P : Prop} (hx : x.length ≤ 400) (hy : y.length ≤ 400) (h : (e = 1 ∧ ¬ (ValidM M ∧ ValidM N)) ∨ (e = 0 ∧ ValidM M ∧ ValidM N ∧ P)) (h1 : RunsOf M x a f) (h2 : RunsOf N y b g) :
    (f = 1 ∧ e = 1) ∨ (f ≠ 1 ∧ g = 1 ∧ e = 1) ∨ (f ≠ 1 ∧ g ≠ 1 ∧ e = 0 ∧ ValidM M ∧ ValidM N ∧ P) := by
  rcases runs_four h1 hx with ⟨f1, n1⟩ | h1
  · refine .inl ⟨f1, ?_⟩
    rcases h with h | h
    · exact h.1
    · exact absurd h.2.1 n1
  have hM : ValidM M := by rcases h1 with h | h | h <;> exact h.1
  have hf : f ≠ 1 := by rcases h1 with h | h | h <;> (rw [h.2.1]; decide)
  rcases runs_four h2 hy with ⟨g1, n2⟩ | h2
  · refine .inr (.inl ⟨hf, g1, ?_⟩)
    rcases h with h | h
    · exact h.1
    · exact absurd h.2.2.1 n2
  have hN : ValidM N := by rcases h2 with h | h | h <;> exact h.1
  have hg : g ≠ 1 := by rcases h2 with h | h | h <;> (rw [h.2.1]; decide)
  rcases h with h | h
  · exact absurd ⟨hM, hN⟩ h.2
  · exact .inr (.inr ⟨hf, hg, h.1, h.2⟩)
/-- ComposeUnites. -/
theorem unites_1 {U : Mach} {x : List UInt8} {a b : List ByteArray} {f g e : Int} (hx : x.length ≤ 8) (fM : FewM M) (fN : FewM N) (h : UnionOut M N U e) (h1 : RunsOf M x a f) (h2 : RunsOf N x b g) :
    (f = 1 ∧ e = 1) ∨ (f ≠ 1 ∧ g = 1 ∧ e = 1) ∨ (f ≠ 1 ∧ g ≠ 1 ∧ e = 0 ∧ ValidM M ∧ ValidM N ∧ UnionM M N U ∧ ValidM U) :=
  both_err (by omega) (by omega) ((union_few fM fN h).imp (fun h => ⟨h.1, h.2.1⟩) id) h1 h2
theorem unites_2 {U : Mach} {x : List UInt8} {a b c : List ByteArray} {f g h : Int} (hx : x.length ≤ 8) (hM : ValidM M) (hN : ValidM N) (hu : UnionM M N U) (hU : ValidM U) (h1 : RunsOf M x a f) (h2 : RunsOf N x b g) (h3 : RunsOf U x c h) :
    (f = 12 ∧ h = 12) ∨ (f ≠ 12 ∧ g = 12 ∧ h = 12) ∨ (f ≠ 12 ∧ g ≠ 12 ∧ h = 2) ∨ (f = 0 ∧ g = 0 ∧ h = 0 ∧ SortedB c ∧ ∀ t, t ∈ c ↔ t ∈ a ∨ t ∈ b) := by
  rcases union_runs hu hM hN hU (by omega) h1 h2 h3 with ⟨h4, h5⟩ | ⟨h4, h5, h6 | h6⟩
  · by_cases hf : f = 12
    · exact .inl ⟨hf, h5⟩
    · exact .inr (.inl ⟨hf, by omega, h5⟩)
  · exact .inr (.inr (.inl ⟨h4, h5, h6⟩))
  · exact .inr (.inr (.inr h6))
/-- ComposeThree. -/
theorem three_1 {A B C D : Mach} {e f g h : Int} (fK : FewM K) (fM : FewM M) (fN : FewM N) (h1 : CompOut K M A e) (h2 : CompOut A N B f) (h3 : CompOut M N C g) (h4 : CompOut K C D h) :
    (e = 1 ∧ f = 1 ∧ h = 1) ∨ (e = 0 ∧ f = 1 ∧ h = 1) ∨ (e = 0 ∧ f = 2 ∧ (h = 0 ∨ h = 2)) ∨ (e = 0 ∧ f = 0 ∧ g = 0 ∧ h = 2) ∨
    (e = 0 ∧ f = 0 ∧ g = 0 ∧ h = 0 ∧ (ValidM K ∧ ValidM M ∧ ValidM N) ∧ Composed K M A ∧ Composed A N B ∧ Composed M N C ∧ Composed K C D) := by
  have hz : ∀ {X Y Z : Mach} {r : Int}, CompOut X Y Z r → ¬ (ValidM X ∧ ValidM Y) → r = 1 := fun hc hn => by
    rcases hc.cases with h | h | h
    · exact h.1
    · exact absurd ⟨h.2.1, h.2.2.1⟩ hn
    · exact absurd ⟨h.2.1, h.2.2.1⟩ hn
  rcases comp_few fK fM h1 with ⟨e1, n1, rfl⟩ | ⟨e0, hK, hM, c1⟩
  · refine .inl ⟨e1, hz h2 (fun h => zeroM_not h.1), ?_⟩
    by_cases hK : ValidM K
    · have hM : ¬ ValidM M := fun h => n1 ⟨hK, h⟩
      rcases comp_few fM fN h3 with ⟨_, _, rfl⟩ | ⟨_, h, _⟩
      · exact hz h4 (fun h => zeroM_not h.2)
      · exact absurd h hM
    · exact hz h4 (fun h => hK h.1)
  rcases comp_few fM fN h3 with ⟨g1, n3, rfl⟩ | ⟨g0, _, hN, c3⟩
  · have hN : ¬ ValidM N := fun h => n3 ⟨hM, h⟩
    exact .inr (.inl ⟨e0, hz h2 (fun h => hN h.2), hz h4 (fun h => zeroM_not h.2)⟩)
  have hA := c1.valid
  have hC := c3.valid
  rcases h2.cases with ⟨_, n, _⟩ | ⟨f2, _⟩ | ⟨f0, _, _, c2⟩
  · exact absurd ⟨hA, hN⟩ n
  · rcases h4.cases with ⟨_, n, _⟩ | ⟨h2', _⟩ | ⟨h0, _⟩
    · exact absurd ⟨hK, hC⟩ n
    · exact .inr (.inr (.inl ⟨e0, f2, .inr h2'⟩))
    · exact .inr (.inr (.inl ⟨e0, f2, .inl h0⟩))
  · rcases h4.cases with ⟨_, n, _⟩ | ⟨h2', _⟩ | ⟨h0, _, _, c4⟩
    · exact absurd ⟨hK, hC⟩ n
    · exact .inr (.inr (.inr (.inl ⟨e0, f0, g0, h2'⟩)))
    · exact .inr (.inr (.inr (.inr ⟨e0, f0, g0, h0, ⟨hK, hM, hN⟩, c1, c2, c3, c4⟩)))
/-- Two machines with the same results. -/
theorem two_runs {B D : Mach} {x : List UInt8} {l o : List ByteArray} {i j : Int} (hx : x.length ≤ 400) (hB : ValidM B) (hD : ValidM D) (hs : ∀ t, Result B x t ↔ Result D x t) (h1 : RunsOf B x l i) (h2 : RunsOf D x o j) :
    (i = 12 ∧ (j = 0 ∨ j = 2 ∨ j = 12)) ∨ (i = 2) ∨ (i = 0 ∧ (j = 2 ∨ j = 12)) ∨ (i = 0 ∧ j = 0 ∧ l = o) := by
  rcases runs_four h1 hx with ⟨_, n⟩ | ⟨_, i1, _⟩ | ⟨_, i1, _⟩ | ⟨_, rfl, _⟩
  · exact absurd hB n
  · rcases runs_four h2 hx with ⟨_, n⟩ | ⟨_, j1, _⟩ | ⟨_, j1, _⟩ | ⟨_, j1, _⟩
    · exact absurd hD n
    · exact .inl ⟨i1, .inr (.inr j1)⟩
    · exact .inl ⟨i1, .inr (.inl j1)⟩
    · exact .inl ⟨i1, .inl j1⟩
  · exact .inr (.inl i1)
  · rcases runs_four h2 hx with ⟨_, n⟩ | ⟨_, j1, _⟩ | ⟨_, j1, _⟩ | ⟨_, rfl, _⟩
    · exact absurd hD n
    · exact .inr (.inr (.inl ⟨rfl, .inr j1⟩))
    · exact .inr (.inr (.inl ⟨rfl, .inl j1⟩))
    · exact .inr (.inr (.inr ⟨rfl, rfl, runs_same h1 h2 hs⟩))
/-- ComposeInverts. -/
theorem inverts_1 {C : Mach} {e : Int} (fM : FewM M) (fN : FewM N) (h : CompOut M N C e) : (e = 1 ∧ ¬ ValidM M) ∨ (e = 1 ∧ ValidM M ∧ ¬ ValidM N) ∨ (e = 0 ∧ ValidM M ∧ ValidM N ∧ Composed M N C) := by
  rcases comp_few fM fN h with ⟨e1, n, _⟩ | h
  · by_cases hM : ValidM M
    · exact .inr (.inl ⟨e1, hM, fun h => n ⟨hM, h⟩⟩)
    · exact .inl ⟨e1, hM⟩
  · exact .inr (.inr h)
theorem inverts_2 {P Q B : Mach} {i : Int} (fM : FewM M) (fN : FewM N) (hM : ValidM M) (hN : ValidM N) (hP : InvOf M P) (hQ : InvOf N Q) (h : CompOut Q P B i) : i = 0 ∧ Composed Q P B := by
  have h1 := fM.small hM
  have h2 := fN.small hN
  have hp := hP.valid hM
  have hq := hQ.valid hN
  rcases h.cases with ⟨_, n, _⟩ | ⟨i2, _⟩ | ⟨i0, _, _, c⟩
  · exact absurd ⟨hq, hp⟩ n
  · have := h.small hq hp (by rw [hQ.states]; exact h2.1) (by rw [hP.states]; exact h1.1) (by rw [hQ.len]; exact h2.2) (by rw [hP.len]; exact h1.2)
    omega
  · exact ⟨i0, c⟩
/-- ComposeForm. -/
theorem form_1 {C : Mach} {e : Int} (fM : FewM M) (fN : FewM N) (h : CompOut M N C e) : (e = 1 ∧ ¬ ValidM C ∧ ¬ (ValidM M ∧ ValidM N)) ∨ (e = 0 ∧ ValidM C ∧ trimM C = C ∧ ValidM M ∧ ValidM N ∧ (Circle C → Circle M ∨ Circle N)) := by
  rcases comp_few fM fN h with ⟨e1, n, rfl⟩ | ⟨e0, hM, hN, c⟩
  · exact .inl ⟨e1, zeroM_not, n⟩
  · exact .inr ⟨e0, c.valid, c.trim, hM, hN, c.circle⟩
theorem form_2 {U : Mach} {e : Int} (fM : FewM M) (fN : FewM N) (h : UnionOut M N U e) : (e = 1 ∧ ¬ ValidM U ∧ ¬ (ValidM M ∧ ValidM N)) ∨ (e = 0 ∧ ValidM U ∧ ValidM M ∧ ValidM N) := by
  rcases union_few fM fN h with ⟨e1, n, rfl⟩ | ⟨e0, hM, hN, _, hU⟩
  · exact .inl ⟨e1, zeroM_not, n⟩
  · exact .inr ⟨e0, hU, hM, hN⟩
theorem form_3 {A : Alph} {C : Mach} {e : Int} (h : CopyOut A C e) : (e = 1 ∧ ¬ ValidM C) ∨ (e = 0 ∧ ValidM C) := by
  rcases h with ⟨_, e1, rfl⟩ | ⟨hA, e0, c⟩
  · exact .inl ⟨e1, zeroM_not⟩
  · exact .inr ⟨e0, c.valid hA⟩
theorem form_4 {C : Mach} {a b c : List ByteArray} {i k l : Int} (hM : ValidM M) (hN : ValidM N) (hc : Circle C → Circle M ∨ Circle N) (h1 : RunsOf M [] a i) (h2 : RunsOf N [] b k) (h3 : RunsOf C [] c l) : i = 12 ∨ (i ≠ 12 ∧ k = 12) ∨ (i ≠ 12 ∧ k ≠ 12 ∧ l ≠ 12) := by
  by_cases hi : i = 12
  · exact .inl hi
  by_cases hk : k = 12
  · exact .inr (.inl ⟨hi, hk⟩)
  refine .inr (.inr ⟨hi, hk, fun hl => ?_⟩)
  have h4 : Circle C := by
    rcases runs_four h3 (by simp) with h | h | h | h
    · omega
    · exact h.2.2
    · omega
    · omega
  rcases hc h4 with h | h
  · rcases runs_four h1 (by simp) with q | q | q | q
    · exact absurd hM q.2
    · exact hi q.2.1
    · exact q.2.2 h
    · exact q.2.2 h
  · rcases runs_four h2 (by simp) with q | q | q | q
    · exact absurd hN q.2
    · exact hk q.2.1
    · exact q.2.2 h
    · exact q.2.2 h
/-- ComposeJoins. -/
theorem joins_1 {C : Mach} {x : List UInt8} {a b : List ByteArray} {f g e : Int} (hx : x.length ≤ 8) (fM : FewM M) (fN : FewM N) (h : CompOut M N C e) (h1 : RunsOf M x a f) (h2 : RunsOf N [] b g) :
    (f = 1 ∧ e = 1) ∨ (f ≠ 1 ∧ g = 1 ∧ e = 1) ∨ (f ≠ 1 ∧ g ≠ 1 ∧ e = 0 ∧ ValidM M ∧ ValidM N ∧ Composed M N C) :=
  both_err (by omega) (by simp) ((comp_few fM fN h).imp (fun h => ⟨h.1, h.2.1⟩) id) h1 h2
theorem joins_2 {C : Mach} {x : List UInt8} {l b all : List ByteArray} {f g h : Int} (hx : x.length ≤ 8) (fM : FewM M) (hM : ValidM M) (hN : ValidM N) (hc : Composed M N C) (h1 : RunsOf M x l f) (h2 : RunsOf N [] b g) (h3 : RunsOf C x all h) :
    (f ≠ 0) ∨ (f = 0 ∧ g = 12) ∨ (f = 0 ∧ g ≠ 12 ∧ h = 2) ∨ (f = 0 ∧ g ≠ 12 ∧ h = 0 ∧ SortedB all ∧ (∀ u ∈ l, ∀ (z : List ByteArray) (k : Int), RunsOf N (bl u) z k → k = 2 ∨ (k = 0 ∧ ∀ t, t ∈ z ↔ Result N (bl u) t)) ∧ ∀ t, t ∈ all ↔ ∃ u ∈ l, Result N (bl u) t) := by
  by_cases hf : f = 0
  case neg => exact .inl hf
  subst hf
  by_cases hg : g = 12
  · exact .inr (.inl ⟨rfl, hg⟩)
  have hn : ¬ Circle N := fun h => by
    rcases runs_four h2 (by simp) with q | q | q | q
    · exact absurd hN q.2
    · exact hg q.2.1
    · exact q.2.2 h
    · exact q.2.2 h
  rcases joins_runs hc hM hN (fM.small hM).1 hx h1 hn h3 with h4 | h4
  · exact .inr (.inr (.inl ⟨rfl, hg, h4⟩))
  · exact .inr (.inr (.inr ⟨rfl, hg, h4⟩))
/-- ComposeCopies. -/
theorem read_iff {A : Alph} (hA : Valid10 A) {x : List UInt8} (h2 : (readL A.bls x).err ≠ 2) : (readL A.bls x).err = 0 ↔ Cat A.bls x :=
  ⟨cat_of_read, fun h => (read_cat (told_of hA) h).elim id (fun h => absurd h.1 h2)⟩
theorem read_short {A : Alph} (hA : Valid10 A) {x : List UInt8} (hx : x.length ≤ 24) : (readL A.bls x).err = 0 ↔ Cat A.bls x :=
  ⟨cat_of_read, fun h => (read_cat (told_of hA) h).elim id (fun h => absurd h.2 (by omega))⟩
theorem copies_2 {A : Alph} {C : Mach} (hA : Valid10 A) (h : CopyM A.bls C) {x : ByteArray} (hx : x.size ≤ 20) {l : List ByteArray} {g : Int} (hr : RunsOf C (bl x) l g) :
    g = 0 ∧ (((readL A.bls (bl x)).err = 0 ∧ l = [x]) ∨ ((readL A.bls (bl x)).err ≠ 0 ∧ l = [])) := by
  obtain ⟨g0, h1⟩ := copy_runs hA h (by omega) hr
  have hi := read_short hA (x := bl x) (by rw [bl_length]; omega)
  refine ⟨g0, h1.imp (fun q => ⟨hi.2 q.1, q.2⟩) (fun q => ⟨fun e => q.1 (hi.1 e), q.2⟩)⟩
theorem copies_3 {A : Alph} {C D : Mach} {e : Int} (hA : Valid10 A) (h : CopyM A.bls C) (hc : CompOut M C D e) : (e = 2) ∨ (e = 1 ∧ ¬ ValidM M) ∨ (e = 0 ∧ ValidM M ∧ Composed M C D) := by
  rcases hc.cases with ⟨e1, n, _⟩ | ⟨e2, _⟩ | ⟨e0, hM, _, c⟩
  · exact .inr (.inl ⟨e1, fun hM => n ⟨hM, h.valid hA⟩⟩)
  · exact .inl e2
  · exact .inr (.inr ⟨e0, hM, c⟩)
theorem copies_4 {A : Alph} {C D : Mach} (hA : Valid10 A) (hM : ValidM M) (h : CopyM A.bls C) (hD : Composed M C D) {x : List UInt8} (hx : x.length ≤ 8) {all kept : List ByteArray} {i k : Int} (h1 : RunsOf M x all i) (h2 : RunsOf D x kept k) :
    i = 2 ∨ i = 12 ∨ (i = 0 ∧ k = 2) ∨ (i = 0 ∧ k = 0 ∧ (∀ t ∈ all, t ∈ kept ↔ Cat A.bls (bl t)) ∧ kept.length = (all.filter (fun t => decide (Cat A.bls (bl t)))).length) := by
  rcases runs_four h1 (by omega) with ⟨_, n⟩ | ⟨_, i1, _⟩ | ⟨_, i1, _⟩ | ⟨_, rfl, nc⟩
  · exact absurd hM n
  · exact .inr (.inl i1)
  · exact .inl i1
  rcases runs_four h2 (by omega) with ⟨_, n⟩ | ⟨_, k1, c⟩ | ⟨_, k1, _⟩ | ⟨_, rfl, _⟩
  · exact absurd hD.valid n
  · rcases hD.circle c with c | c
    · exact absurd c nc
    · exact absurd c (h.plain hA)
  · exact .inr (.inr (.inl ⟨rfl, k1⟩))
  · obtain ⟨q1, q2⟩ := copies_runs hA hM h hD h1 h2
    refine .inr (.inr (.inr ⟨rfl, rfl, q1, ?_⟩))
    have s1 : SortedB all := by
      rcases runs_cases h1 hM (by omega) with ⟨e, _⟩ | ⟨_, ⟨e, _⟩ | ⟨_, _, s, _⟩⟩
      · cases e
      · cases e
      · exact s
    have s2 : SortedB kept := by
      rcases runs_cases h2 hD.valid (by omega) with ⟨e, _⟩ | ⟨_, ⟨e, _⟩ | ⟨_, _, s, _⟩⟩
      · cases e
      · cases e
      · exact s
    refine same_len s2.nodup (s1.nodup.filter _) (fun t => ?_)
    rw [List.mem_filter]
    constructor
    · intro ht
      have h3 := q2 t ht
      exact ⟨h3, by simpa using (q1 t h3).1 ht⟩
    · rintro ⟨h3, h4⟩
      exact (q1 t h3).2 (by simpa using h4)
end
/-- The results that were found behind some of the first machine's results. -/
def JInv (N : Mach) (l : List ByteArray) (k : Nat) (found : List ByteArray) : Prop := found.Nodup ∧ ∀ t, t ∈ found ↔ ∃ u ∈ l.take k, Result N (bl u) t
def JIn (N : Mach) (l : List ByteArray) (k : Nat) (z : List ByteArray) (j : Nat) (found : List ByteArray) : Prop := found.Nodup ∧ ∀ t, t ∈ found ↔ (∃ u ∈ l.take k, Result N (bl u) t) ∨ t ∈ z.take j
noncomputable def addT (found : List ByteArray) (t : ByteArray) : List ByteArray := if t ∈ found then found else found ++ [t]
section
variable {N : Mach} {l z all found : List ByteArray} {k j : Nat}
theorem JInv.zero : JInv N l 0 [] := ⟨by simp, fun t => by simp⟩
theorem JInv.inner (h : JInv N l k found) : JIn N l k z 0 found := ⟨h.1, fun t => by rw [h.2]; simp⟩
theorem JIn.step (h : JIn N l k z j found) (hj : j < z.length) : JIn N l k z (j + 1) (addT found z[j]) := by
  have ht : z.take (j + 1) = z.take j ++ [z[j]] := by rw [List.take_add_one, List.getElem?_eq_getElem hj]; rfl
  unfold addT
  by_cases hm : z[j] ∈ found
  · rw [if_pos hm]
    refine ⟨h.1, fun t => ?_⟩
    rw [h.2, ht, List.mem_append, List.mem_singleton]
    constructor
    · rintro (q | q)
      · exact .inl q
      · exact .inr (.inl q)
    · rintro (q | q | rfl)
      · exact .inl q
      · exact .inr q
      · exact (h.2 _).1 hm
  · rw [if_neg hm]
    refine ⟨List.nodup_append.2 ⟨h.1, by simp, fun a ha b hb e => by
      obtain rfl : b = z[j] := by simpa using hb
      exact hm (e ▸ ha)⟩, fun t => ?_⟩
    rw [List.mem_append, h.2, ht, List.mem_append, List.mem_singleton]
    constructor
    · rintro ((q | q) | q)
      · exact .inl q
      · exact .inr (.inl q)
      · exact .inr (.inr q)
    · rintro (q | q | q)
      · exact .inl (.inl q)
      · exact .inl (.inr q)
      · exact .inr q
theorem JIn.done (h : JIn N l k z z.length found) (hk : k < l.length) (hz : ∀ t, t ∈ z ↔ Result N (bl l[k]) t) : JInv N l (k + 1) found := by
  have ht : l.take (k + 1) = l.take k ++ [l[k]] := by rw [List.take_add_one, List.getElem?_eq_getElem hk]; rfl
  refine ⟨h.1, fun t => ?_⟩
  rw [h.2, ht, List.take_length, hz]
  constructor
  · rintro (⟨u, q, q'⟩ | q)
    · exact ⟨u, List.mem_append.2 (.inl q), q'⟩
    · exact ⟨_, List.mem_append.2 (.inr (List.mem_singleton.2 rfl)), q⟩
  · rintro ⟨u, q, q'⟩
    rcases List.mem_append.1 q with q | q
    · exact .inl ⟨u, q, q'⟩
    · rw [List.mem_singleton.1 q] at q'; exact .inr q'
theorem JIn.le (h : JIn N l k z j found) (hk : k < l.length) (hz : ∀ t, t ∈ z ↔ Result N (bl l[k]) t) (hm : ∀ t, t ∈ all ↔ ∃ u ∈ l, Result N (bl u) t) : found.length ≤ all.length := nodup_len h.1 (fun t ht => by
  rw [hm]
  rcases (h.2 t).1 ht with ⟨u, q, q'⟩ | q
  · exact ⟨u, List.take_subset _ _ q, q'⟩
  · exact ⟨_, List.getElem_mem hk, (hz t).1 (List.take_subset _ _ q)⟩)
theorem JInv.le (h : JInv N l k found) (hm : ∀ t, t ∈ all ↔ ∃ u ∈ l, Result N (bl u) t) : found.length ≤ all.length := nodup_len h.1 (fun t ht => by
  obtain ⟨u, q, q'⟩ := (h.2 t).1 ht
  exact (hm t).2 ⟨u, List.take_subset _ _ q, q'⟩)
theorem JInv.done (h : JInv N l l.length found) (hs : SortedB all) (hm : ∀ t, t ∈ all ↔ ∃ u ∈ l, Result N (bl u) t) : found.length = all.length :=
  same_len h.1 hs.nodup (fun t => by rw [h.2, List.take_length, hm])
theorem joins_mem (hk : k < l.length) (hz : ∀ t, t ∈ z ↔ Result N (bl l[k]) t) (hm : ∀ t, t ∈ all ↔ ∃ u ∈ l, Result N (bl u) t) {t : ByteArray} (ht : t ∈ z) : t ∈ all := (hm t).2 ⟨_, List.getElem_mem hk, (hz t).1 ht⟩
/-- The results of a small machine are short. -/
theorem runs_small {M : Mach} {x : List UInt8} (h : RunsOf M x l 0) (fM : FewM M) (hM : ValidM M) (hx : x.length ≤ 20) {u : ByteArray} (hu : u ∈ l) : u.size ≤ 167 := by
  rcases runs_four h (by omega) with ⟨c, _⟩ | ⟨_, c, _⟩ | ⟨_, c, _⟩ | ⟨_, _, nc⟩
  · cases c
  · cases c
  · cases c
  · have := small_result hM nc (fM.small hM).1 ((runs_ok h).1 hu)
    omega
/-- The count of those that consist of letters. -/
noncomputable def catN (A : Alph) (l : List ByteArray) (j : Nat) : Nat := ((l.take j).filter (fun t => decide (Cat A.bls (bl t)))).length
theorem catN_zero (A : Alph) (l : List ByteArray) : catN A l 0 = 0 := by simp [catN]
theorem catN_yes {A : Alph} (hj : j < l.length) (h : Cat A.bls (bl l[j])) : catN A l (j + 1) = catN A l j + 1 := by
  unfold catN
  rw [List.take_add_one, List.getElem?_eq_getElem hj, List.filter_append, List.length_append]
  simp [h]
theorem catN_no {A : Alph} (hj : j < l.length) (h : ¬ Cat A.bls (bl l[j])) : catN A l (j + 1) = catN A l j := by
  unfold catN
  rw [List.take_add_one, List.getElem?_eq_getElem hj, List.filter_append, List.length_append]
  simp [h]
theorem catN_le (A : Alph) (l : List ByteArray) (j : Nat) : catN A l j ≤ l.length := by
  unfold catN
  refine Nat.le_trans (List.length_filter_le _ _) ?_
  rw [List.length_take]
  omega
theorem catN_all (A : Alph) (l : List ByteArray) : catN A l l.length = (l.filter (fun t => decide (Cat A.bls (bl t)))).length := by
  unfold catN
  rw [List.take_length]
end
end Go.Proofs.YtgaldlecnfekaaaGreatDoor

/- Walk: gazetteerlaw14.head. -/
namespace Go.Proofs.YtgaldlecnfekaaaGreatDoor
open Go.RowKit Classical

theorem head_valid1 : ValidM firstM := valid_of (by decide) (by decide) (by decide) (by decide) (by decide)
theorem head_valid2 : ValidM secondM := valid_of (by decide) (by decide) (by decide) (by decide) (by decide)
theorem head_comp {C : Mach} {err : Int} (h : CompOut firstM secondM C err) : err = 0 ∧ C = wantC := by
  have he := h.small head_valid1 head_valid2 (by decide) (by decide) (by decide) (by decide)
  rcases h with ⟨n, _, _⟩ | ⟨hM, hN, S, hS, ⟨b, h2, _⟩ | ⟨b, h2, h3⟩⟩
  · exact absurd ⟨head_valid1, head_valid2⟩ n
  · omega
  · exact ⟨h2, composed_want ⟨_, (raw_comp hM hN hS b).1, h3⟩⟩
theorem head_union {U : Mach} {err : Int} (h : UnionOut firstM firstM U err) : err = 0 ∧ U = wantBoth := by
  rcases h.cases with ⟨_, n, _⟩ | ⟨_, _, _, _, h | h⟩ | ⟨h1, _, _, hU, _⟩
  · exact absurd ⟨head_valid1, head_valid1⟩ n
  · exact absurd h (by decide)
  · exact absurd h (by decide)
  · exact ⟨h1, union_want hU⟩
theorem head_none {C : Mach} {err : Int} (h : CompOut zeroM firstM C err) : err = 1 ∧ C = zeroM := by
  rcases h.cases with ⟨h1, _, h2⟩ | ⟨_, h, _⟩ | ⟨_, h, _⟩
  · exact ⟨h1, h2⟩
  · exact absurd h zeroM_not
  · exact absurd h zeroM_not
theorem bl_tx (l : List UInt8) : bl (tx l) = l := by simp [tx, bl]
theorem tx_size (l : List UInt8) : (tx l).size = l.length := by rw [← bl_length, bl_tx]
def headA : Alph := ⟨tx [112], [tx [97], tx [98, 99]], [0, 1]⟩
theorem headA_valid : Valid10 headA := by
  refine ⟨⟨by simp only [headA, bl_tx]; decide, by simp [headA], by simp [headA], by simp [headA], ?_, ?_, ?_, ?_⟩, ?_⟩
  · intro l hl
    simp [headA] at hl
    rcases hl with rfl | rfl <;> (rw [tx_size, bl_tx]; exact ⟨by decide, by decide, by decide⟩)
  · intro z hz
    simp [headA] at hz
    rcases hz with rfl | rfl <;> simp [headA]
  · simp only [headA, List.nodup_cons, List.mem_cons, List.not_mem_nil, or_false, List.nodup_nil, and_true]
    refine ⟨fun h => ?_, fun h => h⟩
    have := congrArg bl h
    rw [bl_tx, bl_tx] at this
    cases this
  · intro i z hi
    have h1 : i < 2 := (List.getElem?_eq_some_iff.1 hi).1
    have h2 : i = 0 ∨ i = 1 := by omega
    rcases h2 with rfl | rfl <;> (simp [headA] at hi; subst hi; rfl)
  · intro i k l m hne hl hm hp
    have h1 : i < 2 := (List.getElem?_eq_some_iff.1 hl).1
    have h2 : k < 2 := (List.getElem?_eq_some_iff.1 hm).1
    have h3 : i = 0 ∨ i = 1 := by omega
    have h4 : k = 0 ∨ k = 1 := by omega
    rcases h3 with rfl | rfl <;> rcases h4 with rfl | rfl <;> first | exact absurd rfl hne | (simp [headA] at hl hm; subst hl; subst hm; rw [bl_tx, bl_tx] at hp; simp at hp)
theorem head_copy {C : Mach} {err : Int} (h : CopyOut headA C err) : err = 0 ∧ C = wantCopy := by
  rcases h with ⟨n, _, _⟩ | ⟨_, h1, h2⟩
  · exact absurd headA_valid n
  · refine ⟨h1, copy_want ?_⟩
    have e : headA.bls = [[97], [98, 99]] := by simp [headA, Alph.bls, bl_tx]
    rw [← e]; exact h2
theorem head_runs {ts : List ByteArray} {err : Int} (h : RunsOf wantC (bl ⟨#[97]⟩) ts err) : err = 0 ∧ ts = [tx [117, 119], tx [118], tx [118, 117]] := want_run h

/-- An alphabet that is written out. -/
theorem Stays.litA {w : World} {P : World → Prop} (h : Stays w P) (A : Alph) (hn : A.name.size ≤ maxLen) (hl : A.letters.length ≤ maxLen) (hs : A.small.length ≤ maxLen) (hls : ∀ s ∈ A.letters, s.size ≤ maxLen) :
    Stays ((w.alloc (.cells (strs A.letters).toArray 9)).alloc (.cells (nums A.small).toArray 3))
      (fun x => AlphAt x x.heap.size (.agg #[.string A.name, .slice (some ⟨w.heap.size, 0, none⟩) A.letters.length A.letters.length, .slice (some ⟨w.heap.size + 1, 0, none⟩) A.small.length A.small.length]) A ∧ P x) := by
  have k0 : Stays _ (fun x => Blk x w.heap.size (strs A.letters).toArray 9) := (stays_blk (Blk.new w (strs A.letters).toArray 9)).alloc (.cells (nums A.small).toArray 3)
  have k1 : Stays ((w.alloc (.cells (strs A.letters).toArray 9)).alloc (.cells (nums A.small).toArray 3)) (fun x => Blk x (w.heap.size + 1) (nums A.small).toArray 3) :=
    stays_blk (by have := Blk.new (w.alloc (.cells (strs A.letters).toArray 9)) (nums A.small).toArray 3; simpa using this)
  exact fun x hx => ⟨⟨_, _, _, _, rfl, hn, hl, hs, hls, row_of_blk (xs := strs A.letters) (k0 x hx), row_of_blk (xs := nums A.small) (k1 x hx)⟩, ((h.alloc _).alloc _) x hx⟩
/-- Texts that are written out. -/
theorem Stays.litS {w : World} {P : World → Prop} (h : Stays w P) (ts : List ByteArray) :
    Stays (w.alloc (.cells (strs ts).toArray 9)) (fun x => RowAt x x.heap.size (some ⟨w.heap.size, 0, none⟩) (strs ts) ∧ P x) := by
  have k0 : Stays _ (fun x => Blk x w.heap.size (strs ts).toArray 9) := stays_blk (Blk.new w (strs ts).toArray 9)
  exact fun x hx => ⟨row_of_blk (xs := strs ts) (k0 x hx), (h.alloc _) x hx⟩

set_option maxRecDepth 100000 in
set_option maxHeartbeats 4000000 in
theorem head14_any (w : World) :
    Calls Tryz.prog 12 #[] w fun e w' => e = .returned (.bool true) ∧ Below w.heap.size w w' := by
  have F0 := Lib.hid (Stays.self w)
  go_enter Tryz.func12, Tryz.ntmps12
  go_wp2_with fail
  refine (first14_any w).mono ?_
  rintro e w1 ⟨⟨v1, rfl, hm1⟩, hb1⟩
  have F1 := Lib.hid ((F0.out.move hb1).and (stays_mach hm1))
  clear hm1 hb1 F0
  go_wp2_with fail
  refine (second14_any w1).mono ?_
  rintro e w2 ⟨⟨v2, rfl, hm2⟩, hb2⟩
  have F2 := Lib.hid ((F1.out.move hb2).and (stays_mach hm2))
  clear hm2 hb2 F1
  go_wp2_with fail
  refine (Compose_any firstM secondM _ _ w2 F2.out.now.1.2 F2.out.now.2).mono ?_
  rintro e w3 ⟨v3, C, err, rfl, hm3, hb3, hC⟩
  obtain ⟨rfl, rfl⟩ := head_comp hC
  clear hC
  have G3 := Lib.hid (stays_mach hm3)
  obtain ⟨fa, fc, aa, ac, rfl, -, -, -, -⟩ := hm3
  have F3 := Lib.hid (((F2.out.move hb3).weak fun _ h => h.1.1).put G3.out rfl)
  clear F2 G3 hb3
  go_upto_region 2 with (fail)
  generalize hW4 : (w3.alloc _) = W4
  have F4 := Lib.hid (F3.out.gen hW4)
  have hs4 : w3.heap.size < W4.heap.size := by rw [← hW4]; simp
  clear F3 hW4
  go_upto_region 3 with (fail)
  generalize hW5 : (((W4.alloc _).alloc _).alloc _) = W5
  have F5 := Lib.hid ((F4.out.lit wantC (by decide) (by decide)).gen hW5)
  clear F4 hW5
  obtain ⟨-, kc, -⟩ := F5.out.now
  have c0 := kc.c0
  have c1 := kc.c1
  have c2 := kc.c2
  have c3 := kc.c3
  have mc := kc.mach
  clear kc
  go_wp2_with fail
  refine (Runs_any wantC _ ⟨#[97]⟩ (by decide) W5 mc).mono ?_
  rintro e w6 ⟨vr, l, f, rfl, ⟨pl, cl, rfl, hr⟩, hb6, hr1⟩
  obtain ⟨rfl, rfl⟩ := head_runs hr1
  clear hr1 c0 c1 c2 c3 mc
  have F6 := Lib.hid (((F5.out.move hb6).and (stays_row hr)).weak fun _ h => And.intro h.2 h.1)
  clear F5 hb6 hr
  go_upto_region 4 with (fail)
  go_wp2_with fail
  generalize hW7 : ((w6.alloc _).alloc _) = W7
  have F7 := Lib.hid ((F6.out.litA headA (by decide) (by decide) (by decide) (by decide)).gen hW7)
  clear F6 hW7
  refine (Copy_any headA _ W7 F7.out.now.1).mono ?_
  rintro e w8 ⟨v8, C, err, rfl, hm8, hb8, hC⟩
  obtain ⟨rfl, rfl⟩ := head_copy hC
  clear hC
  have G8 := Lib.hid (stays_mach hm8)
  obtain ⟨fa2, fc2, aa2, ac2, rfl, -, -, -, -⟩ := hm8
  have F8 := Lib.hid (((F7.out.move hb8).weak fun _ h => h.2).put G8.out rfl)
  clear F7 G8 hb8
  go_upto_region 5 with (fail)
  generalize hW9 : (w8.alloc _) = W9
  have F9 := Lib.hid (F8.out.gen hW9)
  have hs9 : w8.heap.size < W9.heap.size := by rw [← hW9]; simp
  clear F8 hW9
  go_upto_region 6 with (fail)
  generalize hWA : (((W9.alloc _).alloc _).alloc _) = WA
  have FA := Lib.hid ((F9.out.lit wantCopy (by decide) (by decide)).gen hWA)
  clear F9 hWA
  go_wp2_with fail
  refine (first14_any WA).mono ?_
  rintro e wB ⟨⟨vB, rfl, hmB⟩, hbB⟩
  have FB := Lib.hid ((FA.out.move hbB).and (stays_mach hmB))
  clear hmB hbB FA
  go_wp2_with fail
  refine (first14_any wB).mono ?_
  rintro e wC ⟨⟨vC, rfl, hmC⟩, hbC⟩
  have FC := Lib.hid ((FB.out.move hbC).and (stays_mach hmC))
  clear hmC hbC FB
  go_wp2_with fail
  refine (Union_any firstM firstM _ _ wC FC.out.now.1.2 FC.out.now.2).mono ?_
  rintro e wD ⟨vD, U, err, rfl, hmD, hbD, hU⟩
  obtain ⟨rfl, rfl⟩ := head_union hU
  clear hU
  have GD := Lib.hid (stays_mach hmD)
  obtain ⟨fa3, fc3, aa3, ac3, rfl, -, -, -, -⟩ := hmD
  have FD := Lib.hid (((FC.out.move hbD).weak fun _ h => h.1.1).put GD.out rfl)
  clear FC GD hbD
  go_upto_region 7 with (fail)
  generalize hWE : (wD.alloc _) = WE
  have FE := Lib.hid (FD.out.gen hWE)
  have hsE : wD.heap.size < WE.heap.size := by rw [← hWE]; simp
  clear FD hWE
  go_upto_region 8 with (fail)
  generalize hWF : (((WE.alloc _).alloc _).alloc _) = WF
  have FF := Lib.hid ((FE.out.lit wantBoth (by decide) (by decide)).gen hWF)
  clear FE hWF
  go_wp2_with fail
  refine (first14_any WF).mono ?_
  rintro e wG ⟨⟨vG, rfl, hmG⟩, hbG⟩
  have FG := Lib.hid ((FF.out.move hbG).and (stays_mach hmG))
  clear hmG hbG FF
  go_wp2_with fail
  have hz : MachAt wG wG.heap.size (.agg #[.int .i64 0, .int .i64 0, .slice none 0 0, .slice none 0 0]) zeroM := zero_mach _ _
  refine (Compose_any zeroM firstM _ _ wG hz FG.out.now.2).mono ?_
  rintro e wH ⟨vH, Z, err, rfl, hmH, hbH, hZ⟩
  obtain ⟨rfl, rfl⟩ := head_none hZ
  clear hZ hz
  have GH := Lib.hid (stays_mach hmH)
  obtain ⟨fa4, fc4, aa4, ac4, rfl, -, -, -, -⟩ := hmH
  have FH := Lib.hid (((FG.out.move hbH).weak fun _ h => h.1).put GH.out rfl)
  clear FG GH hbH
  go_upto_region 9 with (fail)
  generalize hWI : (wH.alloc _) = WI
  have FI := Lib.hid (FH.out.gen hWI)
  clear FH hWI
  obtain ⟨-, -, -, -, -, -, kd, kc, -⟩ := FI.out.now
  have c0 := kc.c0
  have c1 := kc.c1
  have c2 := kc.c2
  have c3 := kc.c3
  have mc := kc.mach
  have d0 := kd.c0
  have d1 := kd.c1
  have d2 := kd.c2
  have d3 := kd.c3
  have md := kd.mach
  clear kc kd
  have hq := Same12_any wantC wantC _ _ WI mc md
  rw [decide_eq_true rfl] at hq
  have Hq := Lib.hid hq
  clear hq
  go_wp2_with fail
  refine Hq.out.mono ?_
  rintro e wJ ⟨rfl, hb⟩
  have FJ := Lib.hid (FI.out.move hb)
  clear Hq hb FI c0 c1 c2 c3 d0 d1 d2 d3 mc md
  go_wp2_with fail
  generalize hWK : (wJ.alloc _) = WK
  have FK := Lib.hid ((FJ.out.litS [tx [117, 119], tx [118], tx [118, 117]]).gen hWK)
  clear FJ hWK
  obtain ⟨kt, -, -, -, -, -, kl, -, -, -⟩ := FK.out.now
  have hq := Texts12_any [tx [117, 119], tx [118], tx [118, 117]] [tx [117, 119], tx [118], tx [118, 117]] pl _ cl 3 (by decide) WK kl kt
  rw [decide_eq_true rfl] at hq
  have Hq := Lib.hid hq
  clear hq kl kt
  refine Hq.out.mono ?_
  rintro e wL ⟨rfl, hb⟩
  have FL := Lib.hid (FK.out.move hb)
  clear Hq hb FK
  go_upto_region 10 with (fail)
  obtain ⟨-, -, -, -, kd, kc, -, -, -, -⟩ := FL.out.now
  have c0 := kc.c0
  have c1 := kc.c1
  have c2 := kc.c2
  have c3 := kc.c3
  have mc := kc.mach
  have d0 := kd.c0
  have d1 := kd.c1
  have d2 := kd.c2
  have d3 := kd.c3
  have md := kd.mach
  clear kc kd
  have hq := Same12_any wantCopy wantCopy _ _ wL mc md
  rw [decide_eq_true rfl] at hq
  have Hq := Lib.hid hq
  clear hq
  go_wp2_with fail
  refine Hq.out.mono ?_
  rintro e wM ⟨rfl, hb⟩
  have FM := Lib.hid (FL.out.move hb)
  clear Hq hb FL c0 c1 c2 c3 d0 d1 d2 d3 mc md
  obtain ⟨-, -, kd, kc, -, -, -, -, -, -⟩ := FM.out.now
  have c0 := kc.c0
  have c1 := kc.c1
  have c2 := kc.c2
  have c3 := kc.c3
  have mc := kc.mach
  have d0 := kd.c0
  have d1 := kd.c1
  have d2 := kd.c2
  have d3 := kd.c3
  have md := kd.mach
  clear kc kd
  have hq := Same12_any wantBoth wantBoth _ _ wM mc md
  rw [decide_eq_true rfl] at hq
  have Hq := Lib.hid hq
  clear hq
  go_wp2_with fail
  refine Hq.out.mono ?_
  rintro e wN ⟨rfl, hb⟩
  have FN := Lib.hid (FM.out.move hb)
  clear Hq hb FM c0 c1 c2 c3 d0 d1 d2 d3 mc md
  obtain ⟨-, -, -, -, -, -, -, -, -, hbw⟩ := FN.out.now
  go_wp2
  go_ret
  exact ⟨rfl, hbw⟩
end Go.Proofs.YtgaldlecnfekaaaGreatDoor
