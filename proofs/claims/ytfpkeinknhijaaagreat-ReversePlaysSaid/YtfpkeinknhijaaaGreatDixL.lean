/- The lowest number that has slots, slot by slot. -/
import Derived.Test.YtfpkeinknhijaaaGreatRevR
import Derived.Test.YtfpkeinknhijaaaGreatDixP
namespace Go.Proofs.YtfpkeinknhijaaaGreat
set_option linter.unusedVariables false
open Go.RowKit Go.Maps Go.Sort

/-- The lowest number of slots from k on, or -1. -/
def lowI (S : List (Nat × Nat)) (k : Nat) : Int := match nextX S k with | some m => (m : Int) | none => -1
theorem ofX_snoc (S : List (Nat × Nat)) (s : Nat × Nat) (m : Nat) : ofX (S ++ [s]) m = ofX S m ++ (if s.1 = m then [s.2] else []) := by
  rw [ofX_app, ofX_cons]
  split <;> simp [ofX]
theorem low_snoc (S : List (Nat × Nat)) (s : Nat × Nat) (k : Nat) : lowI (S ++ [s]) k = if k ≤ s.1 ∧ (lowI S k < 0 ∨ (s.1 : Int) < lowI S k) then (s.1 : Int) else lowI S k := by
  have ne : ∀ {m}, ofX (S ++ [s]) m ≠ [] → ofX S m ≠ [] ∨ s.1 = m := fun {m} h => by
    rw [ofX_snoc] at h
    by_cases hm : s.1 = m
    · exact .inr hm
    · rw [if_neg hm, List.append_nil] at h
      exact .inl h
  have ns : ofX (S ++ [s]) s.1 ≠ [] := by rw [ofX_snoc, if_pos rfl]; simp
  have nl : ∀ {m}, ofX S m ≠ [] → ofX (S ++ [s]) m ≠ [] := fun {m} h => by rw [ofX_snoc]; simp [h]
  cases h : nextX S k with
  | none =>
    have hl : lowI S k = -1 := by unfold lowI; rw [h]
    have hz := nextX_none h
    rw [hl]
    by_cases hk : k ≤ s.1
    · rw [if_pos ⟨hk, .inl (by decide)⟩]
      have := nextX_eq hk ns (fun m hm hne => by
        rcases ne hne with h1 | h1
        · exact absurd (hz m hm) h1
        · omega)
      unfold lowI
      rw [this]
    · rw [if_neg (fun h => hk h.1)]
      have := nextX_eqn (S := S ++ [s]) (k := k) (fun m hm => by
        rw [ofX_snoc, hz m hm, if_neg (by omega)]
        rfl)
      unfold lowI
      rw [this]
  | some n =>
    have hl : lowI S k = (n : Int) := by unfold lowI; rw [h]
    obtain ⟨h1, h2, h3⟩ := nextX_some h
    rw [hl]
    by_cases hk : k ≤ s.1 ∧ s.1 < n
    · rw [if_pos ⟨hk.1, .inr (by omega)⟩]
      have := nextX_eq hk.1 ns (fun m hm hne => by
        rcases ne hne with h4 | h4
        · have := h3 m hm h4; omega
        · omega)
      unfold lowI
      rw [this]
    · rw [if_neg (fun h => hk ⟨h.1, by omega⟩)]
      have := nextX_eq h1 (nl h2) (fun m hm hne => by
        rcases ne hne with h4 | h4
        · exact h3 m hm h4
        · by_cases h5 : s.1 < n
          · exact absurd ⟨by omega, h5⟩ hk
          · omega)
      unfold lowI
      rw [this]
theorem low_ge (S : List (Nat × Nat)) (k : Nat) : lowI S k = -1 ∨ ∃ m : Nat, lowI S k = (m : Int) ∧ nextX S k = some m := by
  unfold lowI
  cases h : nextX S k with
  | none => exact .inl rfl
  | some m => exact .inr ⟨m, rfl, rfl⟩
theorem low_none {S : List (Nat × Nat)} {k : Nat} (h : lowI S k = -1) : nextX S k = none := by
  cases h1 : nextX S k with
  | none => rfl
  | some m =>
    unfold lowI at h
    rw [h1] at h
    simp at h
end Go.Proofs.YtfpkeinknhijaaaGreat
