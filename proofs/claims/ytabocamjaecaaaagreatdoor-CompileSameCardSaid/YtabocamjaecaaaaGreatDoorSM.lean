/- Walk: the law's sample (gazetteerlaw13.sample). -/
import Derived.Test.YtabocamjaecaaaaGreatDoorW13b
import Derived.Deep.RegionHeld3
import Derived.BigRegion
namespace Go.Proofs.YtabocamjaecaaaaGreatDoor
open Go.RowKit Classical

def bs (l : List UInt8) : ByteArray := ⟨l.toArray⟩
def sampleA : Alph := ⟨bs [112], [bs [97], bs [98], bs [110]], [0, 1, 2]⟩
def sampleB : Alph := ⟨bs [113], [bs [97], bs [98], bs [110]], [0, 1, 2]⟩
def sampleR : Ruls := ⟨bs [112], bs [113], [⟨bs [97], bs [98], bs [], false⟩, ⟨bs [110], bs [97, 98], bs [98], false⟩, ⟨bs [98], bs [], bs [], true⟩]⟩

theorem Blk.new_at {w : World} {n : Nat} (h : w.heap.size = n) (cs : Array Value) (t : TypeId) : Blk (w.alloc (.cells cs t)) n cs t := h ▸ Blk.new w cs t

set_option maxRecDepth 100000 in
set_option maxHeartbeats 2000000 in
theorem sample_any (w : World) :
  Calls Tryz.prog 14 #[] w fun e w' => ∃ v va vb, e = .returned (.tuple #[v, va, vb]) ∧ RulsAt w' w'.heap.size v sampleR ∧ AlphAt w' w'.heap.size va sampleA ∧ AlphAt w' w'.heap.size vb sampleB ∧ Below w.heap.size w w' := by
 go_enter Tryz.func14, Tryz.ntmps14
 go_upto_region 4 with (fail)
 generalize hW1 : (((((((w.alloc _).alloc _).alloc _).alloc _).alloc _).alloc _).alloc _) = W1
 have hb1 : Below w.heap.size w W1 := by
  rw [← hW1]
  exact (((((((Below.refl _ _).alloc (Nat.le_refl _) _).alloc (by simp) _).alloc (by simp; omega) _).alloc (by simp; omega) _).alloc (by simp; omega) _).alloc (by simp; omega) _).alloc (by simp; omega) _
 have hsz : W1.heap.size = w.heap.size + 7 := by rw [← hW1]; simp
 have k0 : Blk W1 w.heap.size #[.string (bs []), .string (bs []), .slice none 0 0] 24 := by
  rw [← hW1]; exact ((((((Blk.new _ _ _).alloc _).alloc _).alloc _).alloc _).alloc _).alloc _
 have k1 : Blk W1 (w.heap.size + 1) #[.string (bs []), .slice none 0 0, .slice none 0 0] 28 := by
  rw [← hW1]; exact (((((Blk.new_at (by simp) _ _).alloc _).alloc _).alloc _).alloc _).alloc _
 have k2 : Blk W1 (w.heap.size + 2) #[.string (bs []), .slice none 0 0, .slice none 0 0] 28 := by
  rw [← hW1]; exact ((((Blk.new_at (by simp) _ _).alloc _).alloc _).alloc _).alloc _
 have k3 : Blk W1 (w.heap.size + 3) #[.string (bs [97]), .string (bs [98]), .string (bs [110])] 9 := by
  rw [← hW1]; exact (((Blk.new_at (by simp) _ _).alloc _).alloc _).alloc _
 have k4 : Blk W1 (w.heap.size + 4) #[.int .i64 0, .int .i64 1, .int .i64 2] 3 := by
  rw [← hW1]; exact ((Blk.new_at (by simp) _ _).alloc _).alloc _
 have k5 : Blk W1 (w.heap.size + 5) #[.string (bs [112]), .slice (some ⟨w.heap.size + 3, 0, none⟩) 3 3, .slice (some ⟨w.heap.size + 4, 0, none⟩) 3 3] 28 := by
  rw [← hW1]; exact (Blk.new_at (by simp) _ _).alloc _
 have k6 : Blk W1 (w.heap.size + 6) #[.string (bs [113]), .slice (some ⟨w.heap.size + 3, 0, none⟩) 3 3, .slice (some ⟨w.heap.size + 4, 0, none⟩) 3 3] 28 := by
  rw [← hW1]; exact Blk.new_at (by simp) _ _
 clear hW1
 have K := fun o => And.intro (k0.alloc o) (And.intro (k1.alloc o) (And.intro (k2.alloc o) (And.intro (k5.alloc o) (k6.alloc o))))
 have HK := Lib.hid (And.intro K (And.intro k3 k4))
 have p0 : W1.cell? ⟨w.heap.size + 1 + 1 + 1 + 1 + 1, 0, none⟩ = some (.string (bs [112])) := k5.cell 0
 have p1 : W1.cell? ⟨w.heap.size + 1 + 1 + 1 + 1 + 1, 1, none⟩ = some (.slice (some ⟨w.heap.size + 3, 0, none⟩) 3 3) := k5.cell 1
 have p2 : W1.cell? ⟨w.heap.size + 1 + 1 + 1 + 1 + 1, 2, none⟩ = some (.slice (some ⟨w.heap.size + 4, 0, none⟩) 3 3) := k5.cell 2
 have q0 : W1.cell? ⟨w.heap.size + 1 + 1 + 1 + 1 + 1 + 1, 0, none⟩ = some (.string (bs [113])) := k6.cell 0
 have q1 : W1.cell? ⟨w.heap.size + 1 + 1 + 1 + 1 + 1 + 1, 1, none⟩ = some (.slice (some ⟨w.heap.size + 3, 0, none⟩) 3 3) := k6.cell 1
 have q2 : W1.cell? ⟨w.heap.size + 1 + 1 + 1 + 1 + 1 + 1, 2, none⟩ = some (.slice (some ⟨w.heap.size + 4, 0, none⟩) 3 3) := k6.cell 2
 clear K k3 k4
 have p0' : ∀ o, (W1.alloc o).cell? ⟨w.heap.size + 1 + 1 + 1 + 1 + 1, 0, none⟩ = some (.string (bs [112])) := fun o => (k5.alloc o).cell 0
 have p1' : ∀ o, (W1.alloc o).cell? ⟨w.heap.size + 1 + 1 + 1 + 1 + 1, 1, none⟩ = some (.slice (some ⟨w.heap.size + 3, 0, none⟩) 3 3) := fun o => (k5.alloc o).cell 1
 have p2' : ∀ o, (W1.alloc o).cell? ⟨w.heap.size + 1 + 1 + 1 + 1 + 1, 2, none⟩ = some (.slice (some ⟨w.heap.size + 4, 0, none⟩) 3 3) := fun o => (k5.alloc o).cell 2
 have q0' : ∀ o, (W1.alloc o).cell? ⟨w.heap.size + 1 + 1 + 1 + 1 + 1 + 1, 0, none⟩ = some (.string (bs [113])) := fun o => (k6.alloc o).cell 0
 have q1' : ∀ o, (W1.alloc o).cell? ⟨w.heap.size + 1 + 1 + 1 + 1 + 1 + 1, 1, none⟩ = some (.slice (some ⟨w.heap.size + 3, 0, none⟩) 3 3) := fun o => (k6.alloc o).cell 1
 have q2' : ∀ o, (W1.alloc o).cell? ⟨w.heap.size + 1 + 1 + 1 + 1 + 1 + 1, 2, none⟩ = some (.slice (some ⟨w.heap.size + 4, 0, none⟩) 3 3) := fun o => (k6.alloc o).cell 2
 have r0' : ∀ o, (W1.alloc o).cell? ⟨w.heap.size, 0, none⟩ = some (.string (bs [])) := fun o => (k0.alloc o).cell 0
 have r1' : ∀ o, (W1.alloc o).cell? ⟨w.heap.size, 1, none⟩ = some (.string (bs [])) := fun o => (k0.alloc o).cell 1
 have r2' : ∀ o, (W1.alloc o).cell? ⟨w.heap.size, 2, none⟩ = some (.slice none 0 0) := fun o => (k0.alloc o).cell 2
 have s0' : ∀ o, (W1.alloc o).cell? ⟨w.heap.size + 1, 0, none⟩ = some (.string (bs [])) := fun o => (k1.alloc o).cell 0
 have s1' : ∀ o, (W1.alloc o).cell? ⟨w.heap.size + 1, 1, none⟩ = some (.slice none 0 0) := fun o => (k1.alloc o).cell 1
 have s2' : ∀ o, (W1.alloc o).cell? ⟨w.heap.size + 1, 2, none⟩ = some (.slice none 0 0) := fun o => (k1.alloc o).cell 2
 have t0' : ∀ o, (W1.alloc o).cell? ⟨w.heap.size + 1 + 1, 0, none⟩ = some (.string (bs [])) := fun o => (k2.alloc o).cell 0
 have t1' : ∀ o, (W1.alloc o).cell? ⟨w.heap.size + 1 + 1, 1, none⟩ = some (.slice none 0 0) := fun o => (k2.alloc o).cell 1
 have t2' : ∀ o, (W1.alloc o).cell? ⟨w.heap.size + 1 + 1, 2, none⟩ = some (.slice none 0 0) := fun o => (k2.alloc o).cell 2
 have fr' : ∀ o i, (W1.alloc o).frozen? ⟨w.heap.size, i, none⟩ = false := fun o i => (k0.alloc o).frozen i
 have fs' : ∀ o i, (W1.alloc o).frozen? ⟨w.heap.size + 1, i, none⟩ = false := fun o i => (k1.alloc o).frozen i
 have ft' : ∀ o i, (W1.alloc o).frozen? ⟨w.heap.size + 1 + 1, i, none⟩ = false := fun o i => (k2.alloc o).frozen i
 have np := World.new_ne W1 _ p0
 have nq := World.new_ne W1 _ q0
 have r0 : W1.cell? ⟨w.heap.size, 0, none⟩ = some (.string (bs [])) := k0.cell 0
 have r1 : W1.cell? ⟨w.heap.size, 1, none⟩ = some (.string (bs [])) := k0.cell 1
 have r2 : W1.cell? ⟨w.heap.size, 2, none⟩ = some (.slice none 0 0) := k0.cell 2
 have s0 : W1.cell? ⟨w.heap.size + 1, 0, none⟩ = some (.string (bs [])) := k1.cell 0
 have s1 : W1.cell? ⟨w.heap.size + 1, 1, none⟩ = some (.slice none 0 0) := k1.cell 1
 have s2 : W1.cell? ⟨w.heap.size + 1, 2, none⟩ = some (.slice none 0 0) := k1.cell 2
 have t0 : W1.cell? ⟨w.heap.size + 1 + 1, 0, none⟩ = some (.string (bs [])) := k2.cell 0
 have t1 : W1.cell? ⟨w.heap.size + 1 + 1, 1, none⟩ = some (.slice none 0 0) := k2.cell 1
 have t2 : W1.cell? ⟨w.heap.size + 1 + 1, 2, none⟩ = some (.slice none 0 0) := k2.cell 2
 have nr := World.new_ne W1 _ r0
 have ns := World.new_ne W1 _ s0
 have nt := World.new_ne W1 _ t0
 have fr := fun i => k0.frozen i
 have fs : ∀ i, W1.frozen? ⟨w.heap.size + 1, i, none⟩ = false := fun i => k1.frozen i
 have ft : ∀ i, W1.frozen? ⟨w.heap.size + 1 + 1, i, none⟩ = false := fun i => k2.frozen i
 clear k0 k1 k2 k5 k6
 have Hsz := Lib.hid hsz
 clear hsz
 go_region
 go_wp2_with fail
 have hO : Blk (W1.alloc (.cells #[.string ⟨#[97]⟩, .string ⟨#[98]⟩, .string ⟨#[]⟩, .bool false, .string ⟨#[110]⟩, .string ⟨#[97, 98]⟩, .string ⟨#[98]⟩, .bool false, .string ⟨#[98]⟩, .string ⟨#[]⟩, .string ⟨#[]⟩, .bool true] 60)) W1.heap.size _ _ := Blk.new _ _ _
 have h3 := HK.out.2.1.alloc (.cells #[.string ⟨#[97]⟩, .string ⟨#[98]⟩, .string ⟨#[]⟩, .bool false, .string ⟨#[110]⟩, .string ⟨#[97, 98]⟩, .string ⟨#[98]⟩, .bool false, .string ⟨#[98]⟩, .string ⟨#[]⟩, .string ⟨#[]⟩, .bool true] 60)
 have h4 := HK.out.2.2.alloc (.cells #[.string ⟨#[97]⟩, .string ⟨#[98]⟩, .string ⟨#[]⟩, .bool false, .string ⟨#[110]⟩, .string ⟨#[97, 98]⟩, .string ⟨#[98]⟩, .bool false, .string ⟨#[98]⟩, .string ⟨#[]⟩, .string ⟨#[]⟩, .bool true] 60)
 have hbA : Below w.heap.size w (W1.alloc (.cells #[.string ⟨#[97]⟩, .string ⟨#[98]⟩, .string ⟨#[]⟩, .bool false, .string ⟨#[110]⟩, .string ⟨#[97, 98]⟩, .string ⟨#[98]⟩, .bool false, .string ⟨#[98]⟩, .string ⟨#[]⟩, .string ⟨#[]⟩, .bool true] 60)) := hb1.alloc hb1.size _
 have hsz := Hsz.out
 have HA := Lib.hid (And.intro hO (And.intro h3 (And.intro h4 hbA)))
 clear hO h3 h4 hbA hsz
 refine bodyPost_ret (v := .tuple #[.agg #[.string ⟨#[112]⟩, .string ⟨#[113]⟩, .slice (some ⟨W1.heap.size, 0, none⟩) 3 3], .agg #[.string (bs [112]), .slice (some ⟨w.heap.size + 3, 0, none⟩) 3 3, .slice (some ⟨w.heap.size + 4, 0, none⟩) 3 3], .agg #[.string (bs [113]), .slice (some ⟨w.heap.size + 3, 0, none⟩) 3 3, .slice (some ⟨w.heap.size + 4, 0, none⟩) 3 3]]) (by simp [results, Tryz.results14, go_sem, r0', r1', r2', s0', s1', s2', t0', t1', t2']) rfl ?_
 have hsz := Hsz.out
 obtain ⟨hO, h3, h4, hbA⟩ := HA.out
 generalize (W1.alloc _) = WA at hO h3 h4 hbA ⊢
 generalize hWF : World.setCell _ _ _ = WF
 have hOF : Blk WF W1.heap.size #[.string ⟨#[97]⟩, .string ⟨#[98]⟩, .string ⟨#[]⟩, .bool false, .string ⟨#[110]⟩, .string ⟨#[97, 98]⟩, .string ⟨#[98]⟩, .bool false, .string ⟨#[98]⟩, .string ⟨#[]⟩, .string ⟨#[]⟩, .bool true] 60 := by
  rw [← hWF]; iterate 9 (refine Blk.far ?_ (by intro e; dsimp only at e; omega) _)
  exact hO
 have h3F : Blk WF (w.heap.size + 3) #[.string (bs [97]), .string (bs [98]), .string (bs [110])] 9 := by
  rw [← hWF]; iterate 9 (refine Blk.far ?_ (by intro e; dsimp only at e; omega) _)
  exact h3
 have h4F : Blk WF (w.heap.size + 4) #[.int .i64 0, .int .i64 1, .int .i64 2] 3 := by
  rw [← hWF]; iterate 9 (refine Blk.far ?_ (by intro e; dsimp only at e; omega) _)
  exact h4
 have hbF : Below w.heap.size w WF := by
  rw [← hWF]; iterate 9 (refine Below.setCell ?_ (by dsimp only; omega) _)
  exact hbA
 clear hWF hO h3 h4 hbA
 have hl0 := hOF.lt
 have hl3 := h3F.lt
 have hl4 := h4F.lt
 have rowL : RowAt WF.drew WF.drew.heap.size (some ⟨w.heap.size + 3, 0, none⟩) (strs [bs [97], bs [98], bs [110]]) := fun _ =>
  ⟨_, 0, rfl, hl3, fun i x hx => by rw [Nat.zero_add]; exact (h3F.cell i).trans (by simpa [strs] using hx)⟩
 have rowS : RowAt WF.drew WF.drew.heap.size (some ⟨w.heap.size + 4, 0, none⟩) (nums [0, 1, 2]) := fun _ =>
  ⟨_, 0, rfl, hl4, fun i x hx => by rw [Nat.zero_add]; exact (h4F.cell i).trans (by simpa [nums] using hx)⟩
 have rowR : RowsAt WF.drew WF.drew.heap.size 4 (some ⟨W1.heap.size, 0, none⟩) (sampleR.list.map Rul.cells) := fun _ => by
  refine ⟨_, 0, rfl, hl0, fun i r hi j x hj => ?_⟩
  refine (hOF.cell (0 + i * 4 + j)).trans ?_
  rcases i with _ | _ | _ | i
  ·simp [sampleR, Rul.cells] at hi; subst hi
   rcases j with _ | _ | _ | _ | j <;> simp at hj <;> subst hj <;> rfl
  ·simp [sampleR, Rul.cells] at hi; subst hi
   rcases j with _ | _ | _ | _ | j <;> simp at hj <;> subst hj <;> rfl
  ·simp [sampleR, Rul.cells] at hi; subst hi
   rcases j with _ | _ | _ | _ | j <;> simp at hj <;> subst hj <;> rfl
  ·simp [sampleR] at hi
 refine ⟨_, _, _, rfl, ⟨some ⟨W1.heap.size, 0, none⟩, 3, rfl, by decide, by decide, by decide, by decide, rowR⟩, ⟨some ⟨w.heap.size + 3, 0, none⟩, 3, some ⟨w.heap.size + 4, 0, none⟩, 3, rfl, by decide, by decide, by decide, by decide, rowL, rowS⟩, ⟨some ⟨w.heap.size + 3, 0, none⟩, 3, some ⟨w.heap.size + 4, 0, none⟩, 3, rfl, by decide, by decide, by decide, by decide, rowL, rowS⟩, hbF.drew⟩
end Go.Proofs.YtabocamjaecaaaaGreatDoor
