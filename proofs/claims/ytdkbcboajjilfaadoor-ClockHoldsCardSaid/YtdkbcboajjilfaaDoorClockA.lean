/- Contracts of the small functions of package clock and of its reference. -/
import Derived.Test.YtdkbcboajjilfaaDoorRows
import Derived.Test.YtdkbcboajjilfaaDoorClockP
import Derived.WalkKit
import Derived.ProofKit
import Derived.OpenShut
import Derived.Lib.Hide
namespace Go.Proofs.YtdkbcboajjilfaaDoor
set_option linter.unusedVariables false
open Go.ChangeShapes Go.WideShapes Go.ChangeAt Go.RowKit

set_option maxHeartbeats 400000 in
theorem clockAdd_any (a b : Int) (ha : 0 ≤ a) (ha' : a ≤ 18446744073709551615) (hb : 0 ≤ b) (w : World) :
    Calls Tryd.prog 8 #[.int .u64 a, .int .u64 b] w fun e w' => e = .returned (.int .u64 (ckAdd a b)) ∧ w = w' := by
  unfold ckAdd
  by_cases h : 18446744073709551615 - a ≤ b
  all_goals
    go_enter Tryd.func8, Tryd.ntmps8
    go_wp2
    go_ret
    exact ⟨by simp, rfl⟩

set_option maxHeartbeats 400000 in
theorem refAdd_any (a b : Int) (ha : 0 ≤ a) (ha' : a ≤ 18446744073709551615) (hb : 0 ≤ b) (w : World) :
    Calls Tryd.prog 9 #[.int .u64 a, .int .u64 b] w fun e w' => e = .returned (.int .u64 (ckAdd a b)) ∧ w = w' := by
  unfold ckAdd
  by_cases h : 18446744073709551615 - a ≤ b
  all_goals
    go_enter Tryd.func9, Tryd.ntmps9
    go_wp2
    go_ret
    exact ⟨by simp, rfl⟩

set_option maxHeartbeats 400000 in
theorem clockEff_any (a b : Int) (w : World) :
    Calls Tryd.prog 10 #[.int .u64 a, .int .u64 b] w fun e w' => e = .returned (.int .u64 (ckEff a b)) ∧ w = w' := by
  unfold ckEff
  by_cases h : a < b
  all_goals
    go_enter Tryd.func10, Tryd.ntmps10
    go_wp2
    go_ret
    exact ⟨by simp, rfl⟩

set_option maxHeartbeats 400000 in
theorem refEff_any (a b : Int) (w : World) :
    Calls Tryd.prog 11 #[.int .u64 a, .int .u64 b] w fun e w' => e = .returned (.int .u64 (ckEff a b)) ∧ w = w' := by
  unfold ckEff
  by_cases h : a < b
  all_goals
    go_enter Tryd.func11, Tryd.ntmps11
    go_wp2
    go_ret
    exact ⟨by simp, rfl⟩

set_option maxHeartbeats 400000 in
theorem clockDue_any (a b : Int) (w : World) :
    Calls Tryd.prog 12 #[.int .u64 a, .int .u64 b] w fun e w' => e = .returned (.bool (ckDue a b)) ∧ w = w' := by
  unfold ckDue
  by_cases h : a = 18446744073709551615
  · subst h
    go_enter Tryd.func12, Tryd.ntmps12
    go_wp2
    go_ret
    exact ⟨by simp, rfl⟩
  · by_cases h2 : a ≤ b
    all_goals
      go_enter Tryd.func12, Tryd.ntmps12
      go_wp2
      go_ret
      exact ⟨by simp [h, h2], rfl⟩

set_option maxHeartbeats 400000 in
theorem refDue_any (a b : Int) (w : World) :
    Calls Tryd.prog 13 #[.int .u64 a, .int .u64 b] w fun e w' => e = .returned (.bool (ckDue a b)) ∧ w = w' := by
  unfold ckDue
  by_cases h : a = 18446744073709551615
  · subst h
    go_enter Tryd.func13, Tryd.ntmps13
    go_wp2
    go_ret
    exact ⟨by simp, rfl⟩
  · by_cases h2 : a ≤ b
    all_goals
      go_enter Tryd.func13, Tryd.ntmps13
      go_wp2
      go_ret
      exact ⟨by simp [h, h2], rfl⟩

set_option maxHeartbeats 1000000 in
theorem clockMark_any (n d s g : Int) (hs : 0 ≤ s) (hs' : s ≤ 18446744073709551615) (hg : 0 ≤ g) (w : World) :
    Calls Tryd.prog 15 #[.int .u64 n, .int .u64 d, .int .u64 s, .int .u64 g] w fun e w' => e = .returned (.int .i64 (ckMark n d s g)) ∧ w = w' := by
  rcases Bool.eq_false_or_eq_true (ckDue d n) with h1 | h1 <;> rcases Bool.eq_false_or_eq_true (ckDue s n) with h2 | h2 <;> rcases Bool.eq_false_or_eq_true (ckDue (ckAdd s g) n) with h3 | h3
  all_goals
    go_enter Tryd.func15, Tryd.ntmps15
    go_wp2_with (first | (go_at_call 12; refine (clockDue_any _ _ _).mono ?_; rintro e w' ⟨rfl, rfl⟩) | (go_at_call 8; refine (clockAdd_any _ _ (by omega) (by omega) (by omega) _).mono ?_; rintro e w' ⟨rfl, rfl⟩))
    go_ret
    exact ⟨by simp [ckMark, h1, h2, h3], rfl⟩

set_option maxHeartbeats 1000000 in
theorem refMark_any (n d s g : Int) (hs : 0 ≤ s) (hs' : s ≤ 18446744073709551615) (hg : 0 ≤ g) (w : World) :
    Calls Tryd.prog 16 #[.int .u64 n, .int .u64 d, .int .u64 s, .int .u64 g] w fun e w' => e = .returned (.int .i64 (ckMark n d s g)) ∧ w = w' := by
  rcases Bool.eq_false_or_eq_true (ckDue d n) with h1 | h1 <;> rcases Bool.eq_false_or_eq_true (ckDue (ckAdd s g) n) with h3 | h3 <;> rcases ckDue_three s n with ⟨hc, h2⟩ | ⟨hc, hn, h2⟩ | ⟨hc, hn, h2⟩
  all_goals
    have H2 := Lib.hid h2
    clear h2
    go_enter Tryd.func16, Tryd.ntmps16
    go_wp2_with (first | (go_at_call 13; refine (refDue_any _ _ _).mono ?_; rintro e w' ⟨rfl, rfl⟩) | (go_at_call 9; refine (refAdd_any _ _ (by omega) (by omega) (by omega) _).mono ?_; rintro e w' ⟨rfl, rfl⟩))
    go_ret
    have h2 := H2.out
    exact ⟨by simp only [ckMark, h1, h2, h3]; rfl, rfl⟩
end Go.Proofs.YtdkbcboajjilfaaDoor
