/- Contracts of clock.Next and of its reference. -/
import Derived.Test.YtdkbcboajjilfaaDoorClockA
import Derived.Handy
namespace Go.Proofs.YtdkbcboajjilfaaDoor
set_option linter.unusedVariables false
open Go.ChangeShapes Go.WideShapes Go.ChangeAt Go.RowKit

set_option maxHeartbeats 2000000 in
theorem clockNext_any (n d s g : Int) (hs : 0 ≤ s) (hs' : s ≤ 18446744073709551615) (hg : 0 ≤ g) (w : World) :
    Calls Tryd.prog 17 #[.int .u64 n, .int .u64 d, .int .u64 s, .int .u64 g] w fun e w' => e = .returned (.int .u64 (ckNext n d s g)) ∧ Below w.heap.size w w' := by
  go_enter Tryd.func17, Tryd.ntmps17
  go_wp2_with (first | (go_at_call 15; refine (clockMark_any _ _ _ _ (by omega) (by omega) (by omega) _).mono ?_; rintro e w' ⟨rfl, rfl⟩) | (go_at_call 8; refine (clockAdd_any _ _ (by omega) (by omega) (by omega) _).mono ?_; rintro e w' ⟨rfl, rfl⟩))
  obtain ⟨W, hW⟩ : ∃ W, w.alloc (.cells #[.int .u64 d, .int .u64 s, .int .u64 (ckAdd s g)] 23) = W := ⟨_, rfl⟩
  have hb : Below w.heap.size w W := by rw [← hW]; exact (Below.refl _ _).alloc (Nat.le_refl _) _
  have hc : ∀ k, k < 3 → W.cell? ⟨w.heap.size, k, none⟩ = some (.int .u64 (ckEl d s g k)) := by
    intro k hk
    rw [← hW]
    have : k = 0 ∨ k = 1 ∨ k = 2 := by omega
    rcases this with rfl | rfl | rfl <;> simp [ckEl, go_sem]
  rw [hW]
  clear hW
  go_loop [9, 25] (fun x i => ∃ k : Nat, k ≤ 3 ∧ i = .int .i64 k ∧ x = .int .u64 (ckNextTo n d s g k)) (fun _ i => 3 - (intOf i).toNat)
  case atStart => exact ⟨0, by omega, rfl, rfl⟩
  case round =>
    obtain ⟨k, hk, rfl, rfl⟩ := hrel
    by_cases hlt : k < 3
    · have hcell := hc k hlt
      clear hc
      have hs1 : ckNextTo n d s g (k + 1) = ckStep n d s g (ckNextTo n d s g k) (ckEl d s g k) := rfl
      generalize ckEl d s g k = t at *
      generalize ckNextTo n d s g k = nx at *
      have HS := Lib.hid hs1
      clear hs1
      by_cases c1 : n < t
      · by_cases c2 : t < nx
        · rcases Bool.eq_false_or_eq_true (ckMark t d s g == ckMark n d s g) with c3 | c3
          all_goals
            go_wp2_with (first | (go_at_call 15; refine (clockMark_any _ _ _ _ (by omega) (by omega) (by omega) _).mono ?_; rintro e w' ⟨rfl, rfl⟩))
            go_round
            case rel => exact ⟨k + 1, by omega, by go_num, by rw [HS.out]; simp at c3; simp [ckStep, c1, c2, c3]⟩
            case measure => simp [intOf]; omega
        · go_wp2_with (first | (go_at_call 15; refine (clockMark_any _ _ _ _ (by omega) (by omega) (by omega) _).mono ?_; rintro e w' ⟨rfl, rfl⟩))
          go_round
          case rel => exact ⟨k + 1, by omega, by go_num, by rw [HS.out]; simp [ckStep, c1, c2]⟩
          case measure => simp [intOf]; omega
      · go_wp2_with (first | (go_at_call 15; refine (clockMark_any _ _ _ _ (by omega) (by omega) (by omega) _).mono ?_; rintro e w' ⟨rfl, rfl⟩))
        go_round
        case rel => exact ⟨k + 1, by omega, by go_num, by rw [HS.out]; simp [ckStep, c1]⟩
        case measure => simp [intOf]; omega
    · obtain rfl : k = 3 := by omega
      go_wp2
      go_ret
      exact ⟨rfl, hb⟩
end Go.Proofs.YtdkbcboajjilfaaDoor
