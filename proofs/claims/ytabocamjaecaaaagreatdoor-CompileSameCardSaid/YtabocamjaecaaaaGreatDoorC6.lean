/- The library's sort at compile's arcs. -/
import Derived.Test.YtabocamjaecaaaaGreatDoorC5
import Derived.Test.YtabocamjaecaaaaGreatDoorVS
namespace Go.Proofs.YtabocamjaecaaaaGreatDoor
open Go.RowKit Go.Shelf Go.Lib Go.Sort Classical

theorem cmpLaysA (blk off size : Nat) (w : World) : CmpLays Tryz.prog 21 #[] Arc.cells 4 cmpA blk off size w := fun m os dk _ x y => by
 refine (less_any x y _).mono ?_
 rintro e w' ⟨rfl, o1, o2, o3, rfl⟩
 refine ⟨rfl, 1, #[o1, o2, o3], ?_⟩
 generalize sortWorldK Arc.cells 4 w blk off m dk os = W
 rw [show (W.alloc o1).alloc o2 = grow W #[o1, o2] from by rw [alloc_eq_grow, alloc_eq_grow, grow_grow]; rfl]
 rw [show (grow W #[o1, o2]).drewN 1 = grow (W.drewN 1) #[o1, o2] from rfl, alloc_eq_grow, grow_grow]
 rfl

theorem sorted_arcs : SortArcs := by
 intro l g c base w hle hown
 have h := sorted_gen (fun x : Arc => x) cmpA cmpA_lt (fun x y e => e) 21 (enters_of Tryz.func21 (by kernel_rfl) rfl) cmpLaysA l g c base w (by omega) (by rw [List.map_id']; exact hown)
 refine h.mono ?_
 rintro e w' ⟨he, S, h1, h2, h3, h4, h5⟩
 rw [List.map_id'] at h3 h4
 exact ⟨he, S, h1, fun y => h2.mem_iff, fun hn => inc_of_sorted h3 (h2.nodup_iff.2 hn), h4, h5⟩

theorem Compile_prog (R : Ruls) (A B : Alph) (v va vb : Value) (w : World) (h : RulsAt w w.heap.size v R) (ha : AlphAt w w.heap.size va A) (hb : AlphAt w w.heap.size vb B) :
  Calls Tryz.prog 6 #[v, va, vb] w (CompilePost (Valid11 R A B) R A w) := Compile_any sorted_arcs R A B v va vb w h ha hb
end Go.Proofs.YtabocamjaecaaaaGreatDoor
