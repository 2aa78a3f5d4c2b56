/- Walk of the reference's machine of rules (gazetteerref13.Compile). -/
import Derived.Test.YtabocamjaecaaaaGreatDoorW13
import Derived.Laws.MakeOwn
import Derived.Test.YtabocamjaecaaaaGreatDoorGA
import Derived.Maps.AppendAt
import Derived.Deep.DeepCutAuto
import Derived.Deep.CutBlock
import Derived.Laws.OwnMore
namespace Go.Proofs.YtabocamjaecaaaaGreatDoor
open Go.RowKit Classical

theorem run_make_rowN {P : Program} (t e : TypeId) (i : TypeInfo) (z : Value) (ht : P.underlying t = some (.slice e)) (hi : P.info? e = some i) (hz : i.zero = some z)
  (kl kc : IntKind) (n c : Nat) (hnc : n ≤ c) (hbytes : i.bytes * c ≤ 281474976710656) (h63 : c ≤ 9223372036854775807) (w : World) :
  (Instr.makeSlice t (.int kl (n : Int)) (.int kc (c : Int))).run P w = .ok (.slice (some ⟨w.heap.size, 0, none⟩) n c) (w.alloc (.cells (madeCells z.cells (c * i.size)) e)) := by
 have hb : (i.bytes : Int) * (c : Int) ≤ 281474976710656 := by
  have h : ((i.bytes * c : Nat) : Int) ≤ 281474976710656 := by omega
  rwa [Int.natCast_mul] at h
 have hr := run_make (P := P) w t e i z ht hi hz kl kc n c (by omega) (by omega) hb (by omega)
 simp only [Int.toNat_natCast] at hr
 exact hr

def natsV (l : List Nat) : List Value := l.map fun n : Nat => Value.int .i64 (n : Int)
theorem natsV_append (a b : List Nat) : natsV (a ++ b) = natsV a ++ natsV b := by simp [natsV]
theorem natsV_get (l : List Nat) (i : Nat) (n : Nat) (h : l[i]? = some n) : (natsV l)[i]? = some (.int .i64 (n : Int)) := by simp [natsV, h]
theorem natsV_set (T : List Nat) (n k v : Nat) (hT : T.length = k) (hk : k < n) : (natsV (T ++ List.replicate (n - k) 0)).set k (.int .i64 (v : Int)) = natsV (T ++ [v] ++ List.replicate (n - (k + 1)) 0) := by
 obtain ⟨m, hm⟩ : ∃ m, n - k = m + 1 := ⟨n - k - 1, by omega⟩
 have hm2 : n - (k + 1) = m := by omega
 subst hT
 rw [hm, hm2, natsV_append, List.replicate_succ, List.set_append_right _ _ (by simp [natsV])]
 simp [natsV]
theorem rl_take (l : List Rul) (k : Nat) (h : k < l.length) : (l.map Rul.l).take (k + 1) = (l.map Rul.l).take k ++ [l[k].l] := by
 rw [List.take_add_one]; simp [h]

theorem madeCells_one (z : Value) (n : Nat) : madeCells #[z] n = Array.replicate n z := by
 apply Array.ext
 ·simp [madeCells]
 ·intro i h1 h2
  simp [madeCells, Nat.mod_one]

theorem RowAt.set {w : World} {B : Nat} {a : Option Addr} {xs : List Value} (h : RowAt w B a xs) {p : Addr} (hne : ∀ b o, a = some ⟨b, o, none⟩ → b ≠ p.block) (u : Value) : RowAt (w.setCell p u) B a xs := fun hn => by
 obtain ⟨b, off, e, hb, hc⟩ := h hn
 exact ⟨b, off, e, hb, fun i x hi => (World.cell?_setCell_other w p ⟨b, off + i, none⟩ u (fun e2 => hne b off e (by rw [e2]))).trans (hc i x hi)⟩

theorem own_len {w : World} {base : Nat} {e : TypeId} {size n : Nat} {v : Value} {xs : List Value} (h : w.ownsRow base e size v n xs) : n ≤ maxLen := by
 rcases h.2 with ⟨_, rfl⟩ | ⟨g, cap, cur, _, _, _, h1, h2, _⟩
 ·exact Nat.zero_le _
 ·exact Nat.le_trans h1 h2
theorem readGo_acc (L : List (List UInt8)) : ∀ (f : Nat) (t : List UInt8) (o : Nat) (acc : List Int), (readGo L f t o acc).err = 0 → acc.length ≤ (readGo L f t o acc).letters.length := by
 intro f
 induction f with
 | zero =>
  intro t o acc h
  rw [readGo] at h ⊢
  split
  ·exact Nat.le_refl _
  ·rename_i ht
   rw [if_neg ht] at h
   split at h <;> simp at h
 | succ f ih =>
  intro t o acc h
  rw [readGo] at h ⊢
  split
  ·exact Nat.le_refl _
  ·rename_i ht
   rw [if_neg ht] at h
   split at h
   ·simp at h
   ·rename_i k hk
    have := ih _ _ _ h
    rw [List.length_append] at this
    simp at this ⊢
    omega
theorem readL_ne {L : List (List UInt8)} {t : List UInt8} (ht : t ≠ []) (h : (readL L t).err = 0) : (readL L t).letters ≠ [] := by
 rw [readL, if_neg ht] at h ⊢
 rw [readGo, if_neg ht] at h ⊢
 split at h
 ·simp at h
 ·rename_i k hk
  have := readGo_acc _ _ _ _ _ h
  intro e
  rw [e] at this
  simp at this

theorem rul_n {x : Rul} (h : x.ok) : x.l.n ≤ 9 ∧ 1 ≤ x.l.n := by
 have h1 := h.1.2
 have h2 := h.2.1.2
 unfold RulL.n
 rw [show x.l.src = bl x.src from rfl, show x.l.dst = bl x.dst from rfl, bl_length, bl_length]
 omega

structure CompileOf (R : Ruls) (A : Alph) (M : Mach) : Prop where
 states : M.states = compileStates (R.list.map Rul.l)
 start : M.start = 0
 final : M.final = [1, 2]
 inc : Increasing M.arcs
 mem : ∀ y, y ∈ M.arcs ↔ y ∈ compileArcs A.bls (R.list.map Rul.l)
def CompilePost (ok : Prop) (R : Ruls) (A : Alph) (w : World) (e : Ending) (w' : World) : Prop :=
 ∃ v M err, e = .returned (.tuple #[v, .int .i64 err]) ∧ MachAt w' w'.heap.size v M ∧ Below w.heap.size w w' ∧ (¬ ok → err = 1 ∧ M = ⟨0, 0, [], []⟩) ∧ (ok → err = 0 ∧ CompileOf R A M)

end Go.Proofs.YtabocamjaecaaaaGreatDoor
