/- The hash of a string; names that are valid. -/
import Derived.Test.YtfpkeinknhijaaaGreatShelf
import Derived.Test.YtfpkeinknhijaaaGreatRows
import Derived.Test.YtfpkeinknhijaaaGreatIntQ
import Derived.Test.YtfpkeinknhijaaaGreatStrs
import Derived.WalkKit
import Derived.ProofKit
import Derived.Handy
import Derived.Lib.Hide
import Derived.Lib.Walk
import Derived.BigCall
import Derived.BigGuard
import Derived.WalkSmall
import Derived.BigQuiet
import Derived.OpenShut
namespace Go.Proofs.YtfpkeinknhijaaaGreat
set_option linter.unusedVariables false
open Go.RowKit Go.Maps Go.Sort

def mixB (x : Int) : Int := bits BinOp.xor IntKind.u64 x (IntKind.u64.wrap (x * 8192))
def mixC (x : Int) : Int := bits BinOp.xor IntKind.u64 (mixB x) (mixB x / 128)
def mixF (x : Int) : Int := bits BinOp.xor IntKind.u64 (mixC x) (IntKind.u64.wrap (mixC x * 131072))
theorem mixF_is (x : Int) : 0 ≤ mixF x ∧ mixF x ≤ 18446744073709551615 := bounds_u64 (Go.wf_bits _ _ _ _)
theorem mix_any (x : Int) (h0 : 0 ≤ x) (h1 : x ≤ 18446744073709551615) (w : World) :
    Calls Tryz.prog 105 #[.int .u64 x] w fun e w' => e = .returned (.int .u64 (mixF x)) ∧ w = w' := by
  go_enter Tryz.func105, Tryz.ntmps105
  go_wp2
  go_ret
  exact ⟨rfl, rfl⟩
def foldS (h : Int) (c : UInt8) : Int := IntKind.u64.wrap (IntKind.u64.wrap (IntKind.u64.wrap (31 * h) + IntKind.u64.wrap (c.toNat : Int)) + 1)
def foldF (h : Int) (s : List UInt8) : Int := s.foldl foldS h
theorem foldS_is (h : Int) (c : UInt8) : 0 ≤ foldS h c ∧ foldS h c ≤ 18446744073709551615 := bounds_u64 (Go.wf_wrap _ _)
set_option maxHeartbeats 1000000 in
theorem fold_any (h : Int) (h0 : 0 ≤ h) (h1 : h ≤ 18446744073709551615) (s : ByteArray) (hs : s.size ≤ 140737488355328) (w : World) :
    Calls Tryz.prog 106 #[.int .u64 h, .string s] w fun e w' => e = .returned (.int .u64 (foldF h s.data.toList)) ∧ w = w' := by
  go_enter Tryz.func106, Tryz.ntmps106
  go_wp2
  go_loop [0, 8] (fun u i => ∃ (k : Nat) (x : Int), k ≤ s.size ∧ 0 ≤ x ∧ x ≤ 18446744073709551615 ∧ i = .int .i64 k ∧ u = .int .u64 x ∧ Hid (x = foldF h (s.data.toList.take k))) (fun _ i => s.size - (intOf i).toNat)
  case atStart => exact ⟨0, h, by omega, h0, h1, rfl, rfl, rfl⟩
  case round =>
    obtain ⟨k, x, hk, hx0, hx1, rfl, rfl, HX⟩ := hrel
    by_cases hlt : k < s.size
    · have HN : Hid (foldS x s[k] = foldF h (s.data.toList.take (k + 1))) := by
        have e : s.data.toList.take (k + 1) = s.data.toList.take k ++ [s[k]] := by
          rw [List.take_succ_eq_append_getElem (by simpa using hlt)]; rfl
        rw [e]
        unfold foldF
        rw [List.foldl_append, HX.out]
        rfl
      have hb := foldS_is x s[k]
      have HB := Lib.hid hb
      clear hb
      go_wp2
      go_round
      case rel => exact ⟨k + 1, foldS x s[k], by omega, HB.out.1, HB.out.2, by go_num, rfl, HN.out⟩
      case measure => simp [intOf]; omega
    · have HN : Hid (x = foldF h s.data.toList) := by
        have := HX.out
        rw [List.take_of_length_le (by simp; omega)] at this
        exact this
      clear HX
      go_wp2
      go_ret
      rw [← HN.out]
      exact ⟨rfl, rfl⟩
def sumF (seed : Int) (s : List UInt8) : Int := mixF (foldF seed s)
def hsN (seed : Int) (s : List UInt8) : Nat := (sumF seed s).toNat
theorem foldF_is (s : List UInt8) : ∀ (h : Int), 0 ≤ h → h ≤ 18446744073709551615 → 0 ≤ foldF h s ∧ foldF h s ≤ 18446744073709551615 := by
  induction s with
  | nil => exact fun h h0 h1 => ⟨h0, h1⟩
  | cons c s ih => exact fun h _ _ => ih _ (foldS_is h c).1 (foldS_is h c).2
theorem sum_any (h : Int) (h0 : 0 ≤ h) (h1 : h ≤ 18446744073709551615) (s : ByteArray) (hs : s.size ≤ 140737488355328) (w : World) :
    Calls Tryz.prog 88 #[.int .u64 h, .string s] w fun e w' => e = .returned (.int .u64 (sumF h s.data.toList)) ∧ w = w' := by
  have HF := Lib.hid (fun w => fold_any h h0 h1 s hs w)
  obtain ⟨g0, g1⟩ := foldF_is s.data.toList h h0 h1
  have HM : Hid (∀ w, Calls Tryz.prog 105 #[.int .u64 (foldF h s.data.toList)] w fun e w' => e = .returned (.int .u64 (sumF h s.data.toList)) ∧ w = w') := fun w => mix_any _ g0 g1 w
  generalize sumF h s.data.toList = S at *
  generalize foldF h s.data.toList = F at *
  go_enter Tryz.func88, Tryz.ntmps88
  go_wp2_with fail
  refine (HF.out _).mono ?_
  rintro e w1 ⟨rfl, rfl⟩
  go_wp2_with fail
  refine (HM.out _).mono ?_
  rintro e w1 ⟨rfl, rfl⟩
  go_wp2_with fail
  go_ret
  exact ⟨rfl, rfl⟩
theorem valid_yes (s : ByteArray) (h : validB s.data.toList = true) (w : World) :
    Calls Tryz.prog 77 #[.string s] w fun e w' => e = .returned (.bool true) ∧ w = w' := by
  obtain ⟨h1, h2⟩ : 1 ≤ s.size ∧ s.size ≤ 64 := by
    unfold validB at h
    rw [Bool.and_eq_true, decide_eq_true_eq, decide_eq_true_eq] at h
    simpa using h
  have h3 : (s.size : Int) ≤ 64 := by omega
  clear h
  go_enter Tryz.func77, Tryz.ntmps77
  go_wp2
  go_ret
  exact ⟨rfl, rfl⟩
theorem valid_no (s : ByteArray) (h : validB s.data.toList = false) (w : World) :
    Calls Tryz.prog 77 #[.string s] w fun e w' => e = .returned (.bool false) ∧ w = w' := by
  have h3 : s.size = 0 ∨ 64 < s.size := by
    unfold validB at h
    rw [Bool.and_eq_false_iff, decide_eq_false_iff_not, decide_eq_false_iff_not] at h
    simp only [Array.length_toList] at h
    have e : s.data.size = s.size := rfl
    rw [e] at h
    omega
  rcases h3 with h3 | h3
  · have h4 : ¬ (1 : Int) ≤ (s.size : Int) := by omega
    clear h h3
    go_enter Tryz.func77, Tryz.ntmps77
    go_wp2
    go_ret
    exact ⟨rfl, rfl⟩
  · have h4 : ¬ (s.size : Int) ≤ 64 := by omega
    have h5 : (1 : Int) ≤ (s.size : Int) := by omega
    clear h h3
    go_enter Tryz.func77, Tryz.ntmps77
    go_wp2
    go_ret
    exact ⟨rfl, rfl⟩
end Go.Proofs.YtfpkeinknhijaaaGreat
