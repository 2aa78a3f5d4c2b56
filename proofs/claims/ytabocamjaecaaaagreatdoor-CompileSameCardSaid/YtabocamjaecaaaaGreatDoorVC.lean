/- Walk: slices.Compact at arcs. -/
import Derived.Test.YtabocamjaecaaaaGreatDoorGX
import Derived.Test.YtabocamjaecaaaaGreatDoorGT
import Derived.BigQuiet
import Derived.Deep.QuietTactic
import Derived.Laws.IdiomCopy
import Derived.Lib.SlicesCompact
import Derived.Lib.SliceRun
namespace Go.Proofs.YtabocamjaecaaaaGreatDoor
open Go.RowKit Go.Lib Classical

instance : Inhabited Arc := ⟨⟨0, 0, 0, 0⟩⟩
theorem flat_at (l : List Arc) (t : Nat) (h : t < l.length * 4) : (flat l)[t]? = some ((l.toArray[t / 4]!).cells[t % 4]!) := by
 induction l generalizing t with
 | nil => simp at h
 | cons a l ih =>
  rw [flat_cons]
  rcases t with _ | _ | _ | _ | t
  ·rfl
  ·rfl
  ·rfl
  ·rfl
  ·have h1 : (t + 1 + 1 + 1 + 1) / 4 = t / 4 + 1 := by omega
   have h2 : (t + 1 + 1 + 1 + 1) % 4 = t % 4 := by omega
   have := ih t (by simp at h; omega)
   rw [h1, h2]
   simpa using this
end Go.Proofs.YtabocamjaecaaaaGreatDoor
