/- The walks of ClockTexts and ClockSteps. -/
import Derived.Test.YtdkbcboajjilfaaDoorClockF
namespace Go.Proofs.YtdkbcboajjilfaaDoor
set_option linter.unusedVariables false
open Go.ChangeShapes Go.WideShapes Go.ChangeAt Go.RowKit

set_option maxHeartbeats 2000000 in
theorem texts_walk (t : Int) (s : ByteArray) (m : Int) (ht : 0 ≤ t ∧ t ≤ 18446744073709551615) (hs : s.size ≤ 140737488355328) (_ : -9223372036854775808 ≤ m ∧ m ≤ 9223372036854775807) (w : World) (hL : Laid w) :
    Calls Tryd.prog 5 #[.int .u64 t, .string s, .int .i64 m] w fun e w' => e = .returned (.bool true) ∧ Below w.heap.size w w' := by
  obtain ⟨ht0, ht1⟩ := ht
  have hS := St.refl hL
  by_cases h40 : 40 < s.size
  · go_enter Tryd.func5, Tryd.ntmps5
    go_wp2_with (go_at_call 14; refine (known_any _ (St.laid (by assumption))).mono ?_; rintro e w' ⟨rfl, hb⟩; have hS' := St.step (by assumption) hb; clear hb)
    go_ret
    exact ⟨rfl, St.bel (by assumption)⟩
  · have hs' : s.size ≤ 281474976710656 := by omega
    rcases Bool.eq_false_or_eq_true (ckParse s.data.toList).2 with h2 | h2
    all_goals
      have h3 : psB s.data.toList (ckParse s.data.toList).1 (ckErr (ckParse s.data.toList).2) = true := by simp [psB]
      rw [h2] at h3
      simp only [ckErr, if_true, Bool.false_eq_true, if_false] at h3
      go_enter Tryd.func5, Tryd.ntmps5
      go_wp2_with (first
        | (go_at_call 19; refine (refParse_any s hs' _).mono ?_; rintro e w' ⟨rfl, rfl⟩)
        | (go_at_call 20; refine (clockText_any _ (by omega) (by omega) _ (St.laid (by assumption))).mono ?_; rintro e w' ⟨rfl, hb⟩; have hS' := St.step (by assumption) hb; clear hb)
        | (go_at_call 21; refine (refText_any _ (by omega) (by omega) _).mono ?_; rintro e w' ⟨rfl, rfl⟩)
        | (go_at_call 23; refine (clockWord_any _ _).mono ?_; rintro e w' ⟨rfl, rfl⟩)
        | (go_at_call 24; refine (refWord_any _ _).mono ?_; rintro e w' ⟨rfl, hb⟩; have hS' := St.step (by assumption) hb; clear hb)
        | (go_at_call 22; refine (parses_any _ hs' _ _ _ (St.laid (by assumption))).mono ?_; rintro e w' ⟨rfl, hb⟩; have hS' := St.step (by assumption) hb; clear hb)
        | (go_at_call 14; refine (known_any _ (St.laid (by assumption))).mono ?_; rintro e w' ⟨rfl, hb⟩; have hS' := St.step (by assumption) hb; clear hb))
      go_ret
      exact ⟨rfl, St.bel (by assumption)⟩

set_option maxHeartbeats 4000000 in
theorem steps_walk (d s g : Int) (hd : 0 ≤ d ∧ d ≤ 18446744073709551615) (hs : 0 ≤ s ∧ s ≤ 18446744073709551615) (hg : 0 ≤ g ∧ g ≤ 18446744073709551615) (w : World) (hL : Laid w) :
    Calls Tryd.prog 6 #[.int .u64 d, .int .u64 s, .int .u64 g] w fun e w' => e = .returned (.bool true) ∧ Below w.heap.size w w' := by
  obtain ⟨hs0, hs1⟩ := hs
  obtain ⟨hg0, hg1⟩ := hg
  have hS := St.refl hL
  have hthree : ∀ x : Int, x ≤ 40 ∨ (40 < x ∧ (x != 18446744073709551615) = false) ∨ (40 < x ∧ (x != 18446744073709551615) = true) := fun x => by
    by_cases h : x ≤ 40
    · exact .inl h
    · rcases Bool.eq_false_or_eq_true (x != 18446744073709551615) with h2 | h2
      · exact .inr (.inr ⟨by omega, h2⟩)
      · exact .inr (.inl ⟨by omega, h2⟩)
  have three := Lib.hid hthree
  clear hthree
  rcases three.out d with h1 | ⟨h1, h1'⟩ | ⟨h1, h1'⟩
  case inr.inr =>
    go_enter Tryd.func6, Tryd.ntmps6
    go_wp2_with (go_at_call 14; refine (known_any _ (St.laid (by assumption))).mono ?_; rintro e w' ⟨rfl, hb⟩; have hS' := St.step (by assumption) hb; clear hb)
    go_ret
    exact ⟨rfl, St.bel (by assumption)⟩
  all_goals
    rcases three.out s with h2 | ⟨h2, h2'⟩ | ⟨h2, h2'⟩
    case inr.inr =>
      go_enter Tryd.func6, Tryd.ntmps6
      go_wp2_with (go_at_call 14; refine (known_any _ (St.laid (by assumption))).mono ?_; rintro e w' ⟨rfl, hb⟩; have hS' := St.step (by assumption) hb; clear hb)
      go_ret
      exact ⟨rfl, St.bel (by assumption)⟩
    all_goals
      rcases three.out g with h3 | ⟨h3, h3'⟩ | ⟨h3, h3'⟩
      case inr.inr =>
        go_enter Tryd.func6, Tryd.ntmps6
        go_wp2_with (go_at_call 14; refine (known_any _ (St.laid (by assumption))).mono ?_; rintro e w' ⟨rfl, hb⟩; have hS' := St.step (by assumption) hb; clear hb)
        go_ret
        exact ⟨rfl, St.bel (by assumption)⟩
      all_goals
        go_enter Tryd.func6, Tryd.ntmps6
        go_wp2
        go_loopw [7] (fun v wr => ∃ k : Nat, k ≤ 90 ∧ v = .int .u64 k ∧ St w wr) (fun v _ => 90 - (intOf v).toNat)
        case atStart => exact ⟨0, by omega, rfl, hS⟩
        case round =>
          obtain ⟨k, hk, rfl, hS'⟩ := hrel
          by_cases hlt : k < 90
          · have hn1 : (k : Int) < ckNext k d s g := by
              rcases ckNext_or k d s g with h | ⟨h, _⟩
              · omega
              · exact h
            have hn2 : ∀ j : Int, k ≤ j → j < ckNext k d s g → (ckMark j d s g == ckMark k d s g) = true := fun j h h' => by
              rw [beq_iff_eq]; exact ckNext_same k d s g j h h'
            have hn3 : ∀ j : Int, j = ckNext k d s g → j < 90 → (ckMark j d s g == ckMark k d s g) = false := fun j h h' => by
              rw [beq_eq_false_iff_ne]
              rcases ckNext_or k d s g with h2 | ⟨_, _, h2⟩
              · omega
              · rw [h]; exact h2
            have HN2 := Lib.hid hn2
            have HN3 := Lib.hid hn3
            clear hn2 hn3 hL hS
            go_wp2_with (first
              | (go_at_call 15; refine (clockMark_any _ _ _ _ (by omega) (by omega) (by omega) _).mono ?_; rintro e w' ⟨rfl, rfl⟩)
              | (go_at_call 17; refine (clockNext_any _ _ _ _ (by omega) (by omega) (by omega) _).mono ?_; rintro e w1 ⟨rfl, hb⟩; have hS2 := St.step (by assumption) hb; clear hb))
            go_loop [10] (fun v => ∃ j : Nat, k < j ∧ j ≤ 90 ∧ v = .int .u64 j) (fun v => 90 - (intOf v).toNat)
            case atStart => exact ⟨k + 1, by omega, by omega, by go_num⟩
            case round =>
              obtain ⟨j, hkj, hj, rfl⟩ := hrel
              by_cases hlt2 : j < 90
              · have hA : ∀ x : Int, (j : Int) < x ∨ (j : Int) = x ∨ x < (j : Int) := fun x => by omega
                rcases hA (ckNext k d s g) with e1 | e1 | e1
                · have c1 := HN2.out j (by omega) e1
                  have c2 : ((j : Int) == ckNext k d s g) = false := by rw [beq_eq_false_iff_ne]; omega
                  clear hA
                  go_wp2_with (go_at_call 15; refine (clockMark_any _ _ _ _ (by omega) (by omega) (by omega) _).mono ?_; rintro e w' ⟨rfl, rfl⟩)
                  go_round
                  case rel => exact ⟨j + 1, by omega, by omega, by go_num⟩
                  case measure => simp [intOf]; omega
                · have c1 := HN3.out j e1 (by omega)
                  have c2 : ((j : Int) == ckNext k d s g) = true := by rw [beq_iff_eq]; exact e1
                  have c3 : ¬ (j : Int) < ckNext k d s g := by omega
                  clear hA e1
                  go_wp2_with (go_at_call 15; refine (clockMark_any _ _ _ _ (by omega) (by omega) (by omega) _).mono ?_; rintro e w' ⟨rfl, rfl⟩)
                  go_round
                  case rel => exact ⟨j + 1, by omega, by omega, by go_num⟩
                  case measure => simp [intOf]; omega
                · have c2 : ((j : Int) == ckNext k d s g) = false := by rw [beq_eq_false_iff_ne]; omega
                  clear hA
                  go_wp2_with (go_at_call 15; refine (clockMark_any _ _ _ _ (by omega) (by omega) (by omega) _).mono ?_; rintro e w' ⟨rfl, rfl⟩)
                  go_round
                  case rel => exact ⟨j + 1, by omega, by omega, by go_num⟩
                  case measure => simp [intOf]; omega
              · go_wp2
                go_roundw
                case rel => exact ⟨k + 1, by omega, by go_num, by assumption⟩
                case measure => simp [intOf]; omega
          · have hk90 : ¬ (k : Int) < 90 := by omega
            go_wp2_with (go_at_call 14; refine (known_any _ (St.laid (by assumption))).mono ?_; rintro e w' ⟨rfl, hb⟩; have hS3 := St.step (by assumption) hb; clear hb)
            go_ret
            exact ⟨rfl, St.bel (by assumption)⟩
end Go.Proofs.YtdkbcboajjilfaaDoor
