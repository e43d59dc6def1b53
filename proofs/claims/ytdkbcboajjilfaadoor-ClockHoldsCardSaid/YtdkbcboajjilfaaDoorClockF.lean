/- Contract of the reference's Next; the walks of the five laws. -/
import Derived.Test.YtdkbcboajjilfaaDoorClockE
namespace Go.Proofs.YtdkbcboajjilfaaDoor
set_option linter.unusedVariables false
open Go.ChangeShapes Go.WideShapes Go.ChangeAt Go.RowKit

set_option maxHeartbeats 2000000 in
theorem refNext_any (n d s g : Int) (hs : 0 ≤ s) (hs' : s ≤ 18446744073709551615) (hg : 0 ≤ g) (w : World) :
    Calls Tryd.prog 18 #[.int .u64 n, .int .u64 d, .int .u64 s, .int .u64 g] w fun e w' => e = .returned (.int .u64 (ckNext n d s g)) ∧ Below w.heap.size w w' := by
  go_enter Tryd.func18, Tryd.ntmps18
  go_wp2_with (first | (go_at_call 9; refine (refAdd_any _ _ (by omega) (by omega) (by omega) _).mono ?_; rintro e w' ⟨rfl, rfl⟩))
  obtain ⟨W, hW⟩ : ∃ W, w.alloc (.cells #[.int .u64 d, .int .u64 s, .int .u64 (ckAdd s g)] 23) = W := ⟨_, rfl⟩
  have hb : Below w.heap.size w W := by rw [← hW]; exact (Below.refl _ _).alloc (Nat.le_refl _) _
  have hc : ∀ k, k < 3 → W.cell? ⟨w.heap.size, k, none⟩ = some (.int .u64 (ckEl d s g k)) := by
    intro k hk
    rw [← hW]
    have : k = 0 ∨ k = 1 ∨ k = 2 := by omega
    rcases this with rfl | rfl | rfl <;> simp [ckEl, go_sem]
  rw [hW]
  clear hW
  go_loop [9, 11] (fun x i => ∃ k : Nat, k ≤ 3 ∧ i = .int .i64 k ∧ x = .int .u64 (ckNextTo n d s g k)) (fun _ i => 3 - (intOf i).toNat)
  case atStart => exact ⟨0, by omega, rfl, rfl⟩
  case round =>
    obtain ⟨k, hk, rfl, rfl⟩ := hrel
    by_cases hlt : k < 3
    · have hcell := hc k hlt
      clear hc
      have hs1 : ckNextTo n d s g (k + 1) = ckStep n d s g (ckNextTo n d s g k) (ckEl d s g k) := rfl
      generalize ckEl d s g k = t at *
      generalize ckNextTo n d s g k = nx at *
      have HS := Lib.hid hs1
      clear hs1
      by_cases c1 : n < t
      · by_cases c2 : t < nx
        · rcases Bool.eq_false_or_eq_true (ckMark t d s g == ckMark n d s g) with c3 | c3
          all_goals
            go_wp2_with (first | (go_at_call 16; refine (refMark_any _ _ _ _ (by omega) (by omega) (by omega) _).mono ?_; rintro e w' ⟨rfl, rfl⟩))
            go_round
            case rel => exact ⟨k + 1, by omega, by go_num, by rw [HS.out]; simp at c3; simp [ckStep, c1, c2, c3]⟩
            case measure => simp [intOf]; omega
        · go_wp2
          go_round
          case rel => exact ⟨k + 1, by omega, by go_num, by rw [HS.out]; simp [ckStep, c1, c2]⟩
          case measure => simp [intOf]; omega
      · go_wp2
        go_round
        case rel => exact ⟨k + 1, by omega, by go_num, by rw [HS.out]; simp [ckStep, c1]⟩
        case measure => simp [intOf]; omega
    · obtain rfl : k = 3 := by omega
      go_wp2
      go_ret
      exact ⟨rfl, hb⟩

theorem u64_bd {a : Int} (h : (Lit.int .u64 a).wf = true) : 0 ≤ a ∧ a ≤ 18446744073709551615 := bounds_u64 h

set_option maxHeartbeats 1000000 in
theorem sums_walk (a b : Int) (ha : 0 ≤ a ∧ a ≤ 18446744073709551615) (hb : 0 ≤ b ∧ b ≤ 18446744073709551615) (w : World) (hL : Laid w) :
    Calls Tryd.prog 3 #[.int .u64 a, .int .u64 b] w fun e w' => e = .returned (.bool true) ∧ Below w.heap.size w w' := by
  obtain ⟨ha0, ha1⟩ := ha
  obtain ⟨hb0, hb1⟩ := hb
  go_enter Tryd.func3, Tryd.ntmps3
  go_wp2_with (first
    | (go_at_call 8; refine (clockAdd_any _ _ (by omega) (by omega) (by omega) _).mono ?_; rintro e w' ⟨rfl, rfl⟩)
    | (go_at_call 9; refine (refAdd_any _ _ (by omega) (by omega) (by omega) _).mono ?_; rintro e w' ⟨rfl, rfl⟩)
    | (go_at_call 10; refine (clockEff_any _ _ _).mono ?_; rintro e w' ⟨rfl, rfl⟩)
    | (go_at_call 11; refine (refEff_any _ _ _).mono ?_; rintro e w' ⟨rfl, rfl⟩)
    | (go_at_call 12; refine (clockDue_any _ _ _).mono ?_; rintro e w' ⟨rfl, rfl⟩)
    | (go_at_call 13; refine (refDue_any _ _ _).mono ?_; rintro e w' ⟨rfl, rfl⟩)
    | (go_at_call 14; refine (known_any _ hL).mono ?_; rintro e w' ⟨rfl, hb⟩))
  go_ret
  exact ⟨rfl, by assumption⟩

set_option maxHeartbeats 1000000 in
theorem marks_walk (n d s g : Int) (_ : 0 ≤ n ∧ n ≤ 18446744073709551615) (_ : 0 ≤ d ∧ d ≤ 18446744073709551615) (hs : 0 ≤ s ∧ s ≤ 18446744073709551615) (hg : 0 ≤ g ∧ g ≤ 18446744073709551615) (w : World) (hL : Laid w) :
    Calls Tryd.prog 4 #[.int .u64 n, .int .u64 d, .int .u64 s, .int .u64 g] w fun e w' => e = .returned (.bool true) ∧ Below w.heap.size w w' := by
  obtain ⟨hs0, hs1⟩ := hs
  obtain ⟨hg0, hg1⟩ := hg
  have hS := St.refl hL
  go_enter Tryd.func4, Tryd.ntmps4
  go_wp2_with (first
    | (go_at_call 15; refine (clockMark_any _ _ _ _ (by omega) (by omega) (by omega) _).mono ?_; rintro e w' ⟨rfl, rfl⟩)
    | (go_at_call 16; refine (refMark_any _ _ _ _ (by omega) (by omega) (by omega) _).mono ?_; rintro e w' ⟨rfl, rfl⟩)
    | (go_at_call 17; refine (clockNext_any _ _ _ _ (by omega) (by omega) (by omega) _).mono ?_; rintro e w' ⟨rfl, hb⟩; have hS' := St.step (by assumption) hb; clear hb)
    | (go_at_call 18; refine (refNext_any _ _ _ _ (by omega) (by omega) (by omega) _).mono ?_; rintro e w' ⟨rfl, hb⟩; have hS' := St.step (by assumption) hb; clear hb)
    | (go_at_call 14; refine (known_any _ (St.laid (by assumption))).mono ?_; rintro e w' ⟨rfl, hb⟩; have hS' := St.step (by assumption) hb; clear hb))
  go_ret
  exact ⟨rfl, St.bel (by assumption)⟩
end Go.Proofs.YtdkbcboajjilfaaDoor
