/- Contracts of the reference's plain, Text, digit and Parse. -/
import Derived.Test.YtbcfbdkacnnkgaaDoorKeyD
import Derived.Test.YtbcfbdkacnnkgaaDoorTextP
import Derived.WalkLawsBesides
import Derived.Deep.QuietTactic
import Derived.BigQuiet
namespace Go.Proofs.YtbcfbdkacnnkgaaDoor
set_option linter.unusedVariables false
open Go.RowKit

theorem okB_facts (c : UInt8) : (okB c = true ∧ 33 ≤ c.toNat ∧ c.toNat ≤ 126 ∧ c.toNat ≠ 37 ∧ c.toNat ≠ 34) ∨ (okB c = false ∧ (c.toNat < 33 ∨ 126 < c.toNat ∨ c.toNat = 37 ∨ c.toNat = 34)) := by
  have := byte_all (fun c => decide ((okB c = true ∧ 33 ≤ c.toNat ∧ c.toNat ≤ 126 ∧ c.toNat ≠ 37 ∧ c.toNat ≠ 34) ∨ (okB c = false ∧ (c.toNat < 33 ∨ 126 < c.toNat ∨ c.toNat = 37 ∨ c.toNat = 34)))) (by decide +kernel) c
  exact of_decide_eq_true this

set_option maxHeartbeats 1000000 in
theorem refPlain_any (c : UInt8) (w : World) :
    Calls Tryd.prog 45 #[.int .u8 (c.toNat : Int)] w fun e w' => e = .returned (.bool (okB c)) ∧ w = w' := by
  have hf := okB_facts c
  generalize okB c = v at hf
  generalize c.toNat = n at hf
  have HF := Lib.hid hf
  clear hf
  go_enter Tryd.func45, Tryd.ntmps45
  go_wp2
  all_goals
    go_ret
    refine ⟨?_, rfl⟩
    rcases HF.out with ⟨rfl, hf⟩ | ⟨rfl, hf⟩
    all_goals first | (exfalso; omega) | rfl | (simp; omega)

def hexS : ByteArray := ⟨#[48, 49, 50, 51, 52, 53, 54, 55, 56, 57, 97, 98, 99, 100, 101, 102]⟩
theorem hex_slice (q : Nat) (h : q < 16) : ({ data := #[48, 49, 50, 51, 52, 53, 54, 55, 56, 57, 97, 98, 99, 100, 101, 102] } : ByteArray).extract q (q + 1) = ⟨[hexD q].toArray⟩ := by
  have : ∀ q : Fin 16, ({ data := #[48, 49, 50, 51, 52, 53, 54, 55, 56, 57, 97, 98, 99, 100, 101, 102] } : ByteArray).extract q.val (q.val + 1) = ⟨[hexD q.val].toArray⟩ := by decide +kernel
  exact this ⟨q, h⟩

set_option maxHeartbeats 1000000 in
theorem refText_any (s : ByteArray) (hs : s.size ≤ 1000000) (w : World) :
    Calls Tryd.prog 33 #[.string s] w fun e w' => e = .returned (.string ⟨(rText s.data.toList).toArray⟩) ∧ Below w.heap.size w w' := by
  by_cases h0 : s.size = 0
  · obtain rfl : s = ⟨#[]⟩ := by
      apply ByteArray.ext
      exact Array.eq_empty_of_size_eq_zero h0
    clear h0 hs
    go_enter Tryd.func33, Tryd.ntmps33
    go_wp2
    go_ret
    exact ⟨rfl, Below.refl _ _⟩
  · have hne : s.toList.isEmpty = false := by
      rw [ByteArray.toList_eq]
      cases h : s.data.toList with
      | nil => exfalso; apply h0; have : s.data.toList.length = 0 := by rw [h]; rfl
               simpa using this
      | cons _ _ => rfl
    have hr : rText s.data.toList = tBody s.data.toList := by
      unfold rText
      rw [if_neg]
      intro e
      apply h0
      have : s.data.toList.length = 0 := by rw [e]; rfl
      simpa using this
    rw [hr]
    clear hr h0
    go_enter Tryd.func33, Tryd.ntmps33
    go_wp2
    go_loopw [3, 4] (fun v i wr => ∃ k : Nat, k ≤ s.size ∧ i = .int .i64 k ∧ v = .string ⟨(tBody (s.data.toList.take k)).toArray⟩ ∧ Below w.heap.size w wr) (fun _ i _ => s.size - (intOf i).toNat)
    case atStart => exact ⟨0, by omega, rfl, rfl, Below.refl _ _⟩
    case round =>
      obtain ⟨k, hk, rfl, rfl, hbl⟩ := hrel
      by_cases hlt : k < s.size
      · have htk : s.data.toList.take (k + 1) = s.data.toList.take k ++ [s[k]] := by
          rw [List.take_add_one, List.getElem?_eq_getElem (by simpa using hlt)]
          rfl
        have hlen : (tBody (s.data.toList.take k)).length ≤ 3000000 := by
          have := tBody_length (s.data.toList.take k)
          rw [List.length_take] at this
          omega
        have hx : s.extract k (k + 1) = ⟨[s[k]].toArray⟩ := extract_one s k hlt
        generalize hT : tBody (s.data.toList.take k) = T at hlen
        rcases Bool.eq_false_or_eq_true (okB s[k]) with hv | hv
        · have hstep : tBody (s.data.toList.take (k + 1)) = T ++ [s[k]] := by
            rw [htk, tBody_append, hT]
            show T ++ (tB s[k] ++ []) = _
            rw [List.append_nil, tB, if_pos hv]
          have HS := Lib.hid hstep
          clear hstep htk hT
          go_wp2_with (go_at_call 45; refine (refPlain_any _ _).mono ?_; rintro e w' ⟨rfl, rfl⟩)
          go_roundw
          case rel => exact ⟨k + 1, by omega, by go_num, by rw [HS.out, ← bs_append], hbl⟩
          case measure => simp [intOf]; omega
        · have hstep : tBody (s.data.toList.take (k + 1)) = T ++ [37] ++ [hexD (s[k].toNat / 16)] ++ [hexD (s[k].toNat % 16)] := by
            rw [htk, tBody_append, hT]
            show T ++ (tB s[k] ++ []) = _
            rw [List.append_nil, tB, if_neg (by rw [hv]; simp)]
            simp
          have HS := Lib.hid hstep
          have hn : s[k].toNat < 256 := s[k].toNat_lt
          clear hstep htk hT
          go_wp2_with (go_at_call 45; refine (refPlain_any _ _).mono ?_; rintro e w' ⟨rfl, rfl⟩)
          go_quiet (fail)
          go_wp2
          go_roundw
          case rel =>
            refine ⟨k + 1, by omega, by go_num, ?_, below_drewN hbl _⟩
            rw [HS.out, ← bs_append, ← bs_append, ← bs_append, hex_slice _ (by omega), hex_slice _ (by omega)]
          case measure => simp [intOf]; omega
      · obtain rfl : k = s.size := by omega
        have ht : s.data.toList.take s.size = s.data.toList := List.take_of_length_le (by simp)
        rw [ht] at *
        go_wp2
        go_ret
        exact ⟨rfl, hbl⟩
end Go.Proofs.YtbcfbdkacnnkgaaDoor
