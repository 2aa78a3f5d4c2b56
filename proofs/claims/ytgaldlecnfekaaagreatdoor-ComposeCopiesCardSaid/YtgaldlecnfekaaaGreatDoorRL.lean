/- Plain words: the results of a machine are those that its runs list, and at most 2000. No program in sight. -/
import Derived.Test.YtgaldlecnfekaaaGreatDoorGP
namespace Go.Proofs.YtgaldlecnfekaaaGreatDoor
open Go Classical

theorem runs_ok {M : Mach} {x : List UInt8} {ts : List ByteArray} (h : RunsOf M x ts 0) {t : ByteArray} : t ∈ ts ↔ Result M x t := by
  rcases h with ⟨_, _, h⟩ | ⟨_, ⟨_, _, h⟩ | ⟨_, ⟨_, _, h⟩ | ⟨_, _, _, h⟩⟩⟩
  · cases h
  · cases h
  · cases h
  · exact h t
theorem runs_len {M : Mach} {x : List UInt8} {ts : List ByteArray} {err : Int} (h : RunsOf M x ts err) : ts.length ≤ 2000 := by
  rcases h with ⟨_, h, _⟩ | ⟨_, ⟨_, h, _⟩ | ⟨_, ⟨_, h, _⟩ | ⟨hf, _, hs, h⟩⟩⟩
  · subst h; simp
  · subst h; simp
  · subst h; simp
  · obtain ⟨ks, hk, hp⟩ := hf x.length (Nat.le_refl _)
    rw [List.take_length] at hp
    have h1 : ∀ t ∈ ts, t ∈ ks.map Plc.tx := fun t ht => by
      obtain ⟨_, s, _, hr⟩ := (h t).1 ht
      exact List.mem_map.2 ⟨_, hp _ hr, rfl⟩
    have hn : ts.Nodup := by
      have := hs.2
      unfold List.Nodup at this ⊢
      rw [List.pairwise_map] at this
      exact this.imp (fun hne e => hne (by rw [e]))
    have := nodup_len hn h1
    rw [List.length_map] at this
    omega
end Go.Proofs.YtgaldlecnfekaaaGreatDoor
