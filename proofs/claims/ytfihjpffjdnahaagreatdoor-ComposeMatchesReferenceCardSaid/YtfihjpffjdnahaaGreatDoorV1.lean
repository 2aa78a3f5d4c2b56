/- Walk: machine.Invert. -/
import Derived.Test.YtfihjpffjdnahaaGreatDoorK4
import Derived.Test.YtfihjpffjdnahaaGreatDoorVS
import Derived.Test.YtfihjpffjdnahaaGreatDoorGH
import Derived.Test.YtfihjpffjdnahaaGreatDoorShelf
import Derived.Laws.MakeOwn
import Derived.Maps.AppendAt
import Derived.Deep.DeepCutAuto
import Derived.Deep.CutBlock
import Derived.Laws.OwnMore
import Derived.Deep.RegionHeld3
namespace Go.Proofs.YtfihjpffjdnahaaGreatDoor
open Go.RowKit Classical

theorem RowAt.setC {w : World} {B : Nat} {a : Option Addr} {xs : List Value} (h : RowAt w B a xs) {p : Addr} (hne : ∀ b o, a = some ⟨b, o, none⟩ → b ≠ p.block) (u : Value) : RowAt (w.setCell p u) B a xs := fun hn => by
 obtain ⟨b, off, e, hb, hc⟩ := h hn
 exact ⟨b, off, e, hb, fun i x hi => (World.cell?_setCell_other w p ⟨b, off + i, none⟩ u (fun e2 => hne b off e (by rw [e2]))).trans (hc i x hi)⟩

theorem range_most : ∀ (l : List Int) (n : Nat) (m : Int), (∀ s ∈ l, m ≤ s ∧ s < m + n) → l.Pairwise (· < ·) → l.length ≤ n
 | [], _, _, _, _ => Nat.zero_le _
 | a :: l, n, m, h, hp => by
  have ha := h a (List.mem_cons_self ..)
  obtain ⟨h1, h2⟩ := List.pairwise_cons.1 hp
  have := range_most l (n - 1) (m + 1) (fun s hs => by
   have h3 := h s (List.mem_cons_of_mem _ hs)
   have h4 := h1 s hs
   omega) h2
  simp only [List.length_cons]
  omega
theorem final_most {M : Mach} (h : ValidM M) : M.final.length ≤ 4000 := by
 have h1 := h.one
 have h2 := h.most
 have := range_most M.final M.states.toNat 0 (fun s hs => by have := h.final s hs; unfold StateOk at this; omega) h.inc
 omega
end Go.Proofs.YtfihjpffjdnahaaGreatDoor
