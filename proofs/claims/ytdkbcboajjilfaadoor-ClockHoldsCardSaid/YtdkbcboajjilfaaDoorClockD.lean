/- Contracts of the reference's Parse, of Word, of parses. -/
import Derived.Test.YtdkbcboajjilfaaDoorClockC
namespace Go.Proofs.YtdkbcboajjilfaaDoor
set_option linter.unusedVariables false
open Go.ChangeShapes Go.WideShapes Go.ChangeAt Go.RowKit

set_option maxHeartbeats 1000000 in
theorem refParse_any (s : ByteArray) (hs : s.size ≤ 281474976710656) (w : World) :
    Calls Tryd.prog 19 #[.string s] w fun e w' => e = .returned (.tuple #[.int .u64 (ckParse s.data.toList).1, .bool (ckParse s.data.toList).2]) ∧ w = w' := by
  by_cases h : s.data.toList = ckNever
  · have hT : ckParse s.data.toList = (18446744073709551615, true) := by simp [ckParse, h]
    have HT := Lib.hid hT
    have h2 : s = ⟨#[110, 101, 118, 101, 114]⟩ := by
      apply ByteArray.ext
      rw [← Array.toArray_toList (xs := s.data), h]
      rfl
    clear hT
    rw [HT.out]
    subst h2
    go_enter Tryd.func19, Tryd.ntmps19
    go_wp2
    go_ret2
    exact ⟨rfl, rfl⟩
  · have h2 : (s.toList == [110, 101, 118, 101, 114]) = false := by
      rw [beq_eq_false_iff_ne, Lib.toList_data]
      exact h
    have hl : s.data.toList.length = s.size := by simp
    by_cases h0 : s.size = 0
    · obtain rfl : s = ⟨#[]⟩ := by
        apply ByteArray.ext
        exact Array.eq_empty_of_size_eq_zero h0
      have HT := Lib.hid ckParse_nil
      clear hl h h0
      go_enter Tryd.func19, Tryd.ntmps19
      go_wp2
      go_ret2
      exact ⟨by rw [HT.out]; rfl, rfl⟩
    · have h3 : ((s.size : Int) == 0) = false := by rw [beq_eq_false_iff_ne]; omega
      by_cases h20 : s.size ≤ 20
      · have hT := ckParse_from s.data.toList h (by intro e; rw [e] at hl; simp at hl; omega)
        have HT := Lib.hid hT
        have HL := Lib.hid hl
        clear hT hl h h0
        go_enter Tryd.func19, Tryd.ntmps19
        go_wp2
        go_loop [4, 5] (fun n i => ∃ k acc : Nat, k ≤ s.size ∧ acc ≤ 18446744073709551615 ∧ i = .int .i64 k ∧ n = .int .u64 acc ∧ Hid (ckFrom s.data.toList 0 s.data.toList = ckFrom s.data.toList acc (s.data.toList.drop k))) (fun _ i => s.size - (intOf i).toNat)
        case atStart => exact ⟨0, 0, by omega, by omega, rfl, rfl, rfl⟩
        case round =>
          obtain ⟨k, acc, hk, ha, rfl, rfl, HR⟩ := hrel
          by_cases hlt : k < s.size
          · have hd : s.data.toList.drop k = s[k] :: s.data.toList.drop (k + 1) := by
              have := List.drop_eq_getElem_cons (l := s.data.toList) (i := k) (by simpa using hlt)
              rw [this]
              rfl
            have HD := Lib.hid hd
            clear hd
            by_cases c1 : 48 ≤ s[k].toNat
            · by_cases c2 : s[k].toNat ≤ 57
              · by_cases c3 : acc ≤ (18446744073709551615 - (s[k].toNat - 48)) / 10
                · go_wp2
                  go_round
                  case rel => exact ⟨k + 1, acc * 10 + (s[k].toNat - 48), by omega, by omega, by go_num, by congr 1; omega, by
                    have h := HR.out
                    unfold Hid
                    rw [h, ckFrom, HD.out, pm_digit acc _ _ c1 c2 c3, ckFrom]⟩
                  case measure => simp [intOf]; omega
                · go_wp2
                  go_ret2
                  exact ⟨by rw [HT.out, HR.out, ckFrom, HD.out, pm_range acc _ _ c1 c2 c3]; rfl, rfl⟩
              · go_wp2
                go_ret2
                exact ⟨by rw [HT.out, HR.out, ckFrom, HD.out, pm_syntax _ acc _ _ (by omega)]; rfl, rfl⟩
            · go_wp2
              go_ret2
              exact ⟨by rw [HT.out, HR.out, ckFrom, HD.out, pm_syntax _ acc _ _ (by omega)]; rfl, rfl⟩
          · have hk' : k = s.size := by omega
            have hf : ckFrom s.data.toList acc (s.data.toList.drop k) = if ckText acc = s.data.toList then ((acc : Int), true) else (0, false) := by
              rw [List.drop_eq_nil_of_le (by rw [HL.out]; omega)]
              rfl
            have HF := Lib.hid hf
            clear hf hk'
            rcases Bool.eq_false_or_eq_true (ckText acc == s.toList) with h5 | h5
            all_goals
              have ht := h5
              rw [Lib.toList_data] at ht
              simp only [beq_iff_eq, beq_eq_false_iff_ne, ne_eq] at ht
              have Ht := Lib.hid ht
              clear ht
              have h6 : (ckText acc != s.toList) = !(ckText acc == s.toList) := rfl
              rw [h5] at h6
              go_wp2_with (go_at_call 21; refine (refText_any acc (by omega) (by omega) _).mono ?_; rintro e w1 ⟨rfl, rfl⟩)
              go_ret2
              have ht := Ht.out
              exact ⟨by rw [HT.out, HR.out, HF.out]; simp only [ht, if_true, if_false]; rfl, rfl⟩
      · have hT := ckParse_long s.data.toList (by omega)
        have HT := Lib.hid hT
        clear hT hl h h0
        go_enter Tryd.func19, Tryd.ntmps19
        go_wp2
        go_ret2
        exact ⟨by rw [HT.out]; rfl, rfl⟩
end Go.Proofs.YtdkbcboajjilfaaDoor
