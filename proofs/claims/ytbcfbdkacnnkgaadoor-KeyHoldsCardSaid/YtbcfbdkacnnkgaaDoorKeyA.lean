/- Contracts of the small functions of package key and of its reference. -/
import Derived.Test.YtbcfbdkacnnkgaaDoorShelf
import Derived.Test.YtbcfbdkacnnkgaaDoorRows
import Derived.Test.YtbcfbdkacnnkgaaDoorKeyP
import Derived.WalkKit
import Derived.ProofKit
import Derived.OpenShut
import Derived.Handy
import Derived.Lib.Hide
import Derived.WalkSpells
import Derived.PlainAid
import Derived.Deep.QuietTactic
import Derived.BigQuiet
import Derived.WalkSmall
namespace Go.Proofs.YtbcfbdkacnnkgaaDoor
set_option linter.unusedVariables false
open Go.ChangeShapes Go.WideShapes Go.ChangeAt Go.RowKit

theorem kValid_cases (n : Nat) : (n = 0 ∧ kValid n = false) ∨ (1 ≤ n ∧ n ≤ 250 ∧ kValid n = true) ∨ (250 < n ∧ kValid n = false) := by
  unfold kValid; simp; omega
theorem kValidTag_cases (n : Nat) : (n = 0 ∧ kValidTag n = false) ∨ (1 ≤ n ∧ n ≤ 64 ∧ kValidTag n = true) ∨ (64 < n ∧ kValidTag n = false) := by
  unfold kValidTag; simp; omega

set_option maxHeartbeats 400000 in
theorem keyValid_any (s : ByteArray) (w : World) :
    Calls Tryd.prog 11 #[.string s] w fun e w' => e = .returned (.bool (kValid s.size)) ∧ w = w' := by
  rcases kValid_cases s.size with ⟨h, hv⟩ | ⟨h, h2, hv⟩ | ⟨h, hv⟩
  all_goals
    have HV := Lib.hid hv
    have h' : 0 < s.size ∨ s.size = 0 := by omega
    have h3 : s.size < 1 ∨ 1 ≤ s.size := by omega
    clear hv
    go_enter Tryd.func11, Tryd.ntmps11
    go_wp2
    go_ret
    rw [HV.out]
    refine ⟨?_, rfl⟩
    first | rfl | (simp; omega)

set_option maxHeartbeats 400000 in
theorem refValid_any (s : ByteArray) (w : World) :
    Calls Tryd.prog 12 #[.string s] w fun e w' => e = .returned (.bool (kValid s.size)) ∧ w = w' := by
  rcases kValid_cases s.size with ⟨h, hv⟩ | ⟨h, h2, hv⟩ | ⟨h, hv⟩
  all_goals
    have HV := Lib.hid hv
    have h' : 0 < s.size ∨ s.size = 0 := by omega
    have h3 : s.size < 1 ∨ 1 ≤ s.size := by omega
    clear hv
    go_enter Tryd.func12, Tryd.ntmps12
    go_wp2
    go_ret
    rw [HV.out]
    refine ⟨?_, rfl⟩
    first | rfl | (simp; omega)

set_option maxHeartbeats 400000 in
theorem keyValidTag_any (s : ByteArray) (w : World) :
    Calls Tryd.prog 13 #[.string s] w fun e w' => e = .returned (.bool (kValidTag s.size)) ∧ w = w' := by
  rcases kValidTag_cases s.size with ⟨h, hv⟩ | ⟨h, h2, hv⟩ | ⟨h, hv⟩
  all_goals
    have HV := Lib.hid hv
    have h' : 0 < s.size ∨ s.size = 0 := by omega
    have h3 : s.size < 1 ∨ 1 ≤ s.size := by omega
    clear hv
    go_enter Tryd.func13, Tryd.ntmps13
    go_wp2
    go_ret
    rw [HV.out]
    refine ⟨?_, rfl⟩
    first | rfl | (simp; omega)

set_option maxHeartbeats 400000 in
theorem refValidTag_any (s : ByteArray) (w : World) :
    Calls Tryd.prog 14 #[.string s] w fun e w' => e = .returned (.bool (kValidTag s.size)) ∧ w = w' := by
  rcases kValidTag_cases s.size with ⟨h, hv⟩ | ⟨h, h2, hv⟩ | ⟨h, hv⟩
  all_goals
    have HV := Lib.hid hv
    have h' : 0 < s.size ∨ s.size = 0 := by omega
    have h3 : s.size < 1 ∨ 1 ≤ s.size := by omega
    clear hv
    go_enter Tryd.func14, Tryd.ntmps14
    go_wp2
    go_ret
    rw [HV.out]
    refine ⟨?_, rfl⟩
    first | rfl | (simp; omega)

set_option maxHeartbeats 400000 in
theorem keyValidPrefix_any (s : ByteArray) (w : World) :
    Calls Tryd.prog 15 #[.string s] w fun e w' => e = .returned (.bool (kValidPrefix s.size)) ∧ w = w' := by
  go_enter Tryd.func15, Tryd.ntmps15
  go_wp2
  go_ret
  refine ⟨?_, rfl⟩
  unfold kValidPrefix
  simp
  omega

set_option maxHeartbeats 400000 in
theorem refValidPrefix_any (s : ByteArray) (w : World) :
    Calls Tryd.prog 16 #[.string s] w fun e w' => e = .returned (.bool (kValidPrefix s.size)) ∧ w = w' := by
  go_enter Tryd.func16, Tryd.ntmps16
  go_wp2
  go_ret
  refine ⟨?_, rfl⟩
  unfold kValidPrefix
  simp
  omega

theorem keyHas_any (s p : ByteArray) (w : World) :
    Calls Tryd.prog 17 #[.string s, .string p] w fun e w' => e = .returned (.bool (kHas s.data.toList p.data.toList)) ∧ w = w' := by
  go_enter Tryd.func17, Tryd.ntmps17
  go_wp2_with (go_at_call 37; refine (Tryd.strings_HasPrefix s p _).mono ?_; rintro e w' ⟨rfl, hw⟩; subst hw)
  go_ret
  exact ⟨rfl, rfl⟩

set_option maxHeartbeats 400000 in
theorem refHas_any (s p : ByteArray) (w : World) :
    Calls Tryd.prog 18 #[.string s, .string p] w fun e w' => e = .returned (.bool (kHas s.data.toList p.data.toList)) ∧ w = w' := by
  have hr : kHas s.data.toList p.data.toList = (decide (p.size ≤ s.size) && ((s.extract 0 p.size).toList == p.toList)) := (Lib.hasPrefix_raw s p).symm
  have HR := Lib.hid hr
  clear hr
  by_cases h : p.size ≤ s.size
  all_goals
    go_enter Tryd.func18, Tryd.ntmps18
    go_wp2
    go_ret
    refine ⟨?_, rfl⟩
    rw [HR.out]
    simp [h]

theorem alike_succ {x y : Bs} {k : Nat} (h : ∀ i, i < k → x[i]? = y[i]?) (e : x[k]? = y[k]?) : Hid (∀ i, i < k + 1 → x[i]? = y[i]?) := fun i hi => by
  rcases Nat.lt_succ_iff_lt_or_eq.1 hi with h1 | h1
  · exact h i h1
  · rw [h1]; exact e

theorem getB (s : ByteArray) (k : Nat) (h : k < s.size) : s.data.toList[k]? = some s[k] := by
  rw [List.getElem?_eq_getElem (by simpa using h)]
  rfl

set_option maxHeartbeats 1000000 in
theorem keyCommon_any (a b : ByteArray) (ha : a.size ≤ 140737488355328) (hb : b.size ≤ 140737488355328) (w : World) :
    Calls Tryd.prog 19 #[.string a, .string b] w fun e w' => e = .returned (.int .i64 (kCommon a.data.toList b.data.toList)) ∧ Below w.heap.size w w' := by
  obtain ⟨n, hn1, hn2, hn3, hn⟩ : ∃ n : Nat, n ≤ a.size ∧ n ≤ b.size ∧ (n = a.size ∨ n = b.size) ∧ (min (a.size : Int) (b.size : Int)) = n := ⟨min a.size b.size, by omega, by omega, by omega, by omega⟩
  have hfin : (∀ i, i < n → a.data.toList[i]? = b.data.toList[i]?) → kCommon a.data.toList b.data.toList = n := fun h =>
    kCommon_eq _ _ n (by simpa using hn1) (by simpa using hn2) h (by rcases hn3 with h3 | h3 <;> simp [h3])
  have hstop : ∀ k, (∀ i, i < k → a.data.toList[i]? = b.data.toList[i]?) → (h1 : k < n) → a.data.toList[k]? ≠ b.data.toList[k]? → kCommon a.data.toList b.data.toList = k := fun k h h1 h2 =>
    kCommon_eq _ _ k (by simp; omega) (by simp; omega) h (.inr (.inr h2))
  have HF := Lib.hid hfin
  have HS := Lib.hid hstop
  clear hn3 hfin hstop
  go_enter Tryd.func19, Tryd.ntmps19
  go_wp2
  clear hn
  go_loopw [13] (fun v wr => ∃ k : Nat, k ≤ n ∧ v = .int .i64 k ∧ Hid (∀ i, i < k → a.data.toList[i]? = b.data.toList[i]?) ∧ Below w.heap.size w wr) (fun v _ => n - (intOf v).toNat)
  case atStart => exact ⟨0, by omega, rfl, fun i h => absurd h (Nat.not_lt_zero _), Below.refl _ _⟩
  case round =>
    obtain ⟨k, hk, rfl, HA, hbl⟩ := hrel
    by_cases hlt : k < n
    · have ga := getB a k (by omega)
      have gb := getB b k (by omega)
      have k1 : k < a.size := by omega
      have k2 : k < b.size := by omega
      by_cases e : a[k] = b[k]
      · have HE := Lib.hid (show a.data.toList[k]? = b.data.toList[k]? by rw [ga, gb, e])
        have c1 : (((a[k].toNat : Int)) == (b[k].toNat : Int)) = true := by rw [e]; simp
        clear ga gb e
        go_wp2
        go_quiet (fail)
        go_wp2
        go_roundw
        case rel => exact ⟨k + 1, by omega, by go_num, alike_succ HA.out HE.out, below_drewN hbl _⟩
        case measure => simp [intOf]; omega
      · have HE := Lib.hid (show a.data.toList[k]? ≠ b.data.toList[k]? by rw [ga, gb]; simpa using e)
        have c1 : (((a[k].toNat : Int)) == (b[k].toNat : Int)) = false := by rw [beq_eq_false_iff_ne]; exact fun h => e (UInt8.toNat_inj.1 (by omega))
        clear ga gb e
        go_wp2
        go_quiet (fail)
        go_wp2
        go_ret
        exact ⟨by rw [HS.out k HA.out hlt HE.out]; rfl, below_drewN hbl _⟩
    · have e : k = n := by omega
      have HA' := HA.out
      rw [e] at HA'
      have HA2 := Lib.hid HA'
      clear HA' HA
      go_wp2
      go_ret
      exact ⟨by rw [HF.out HA2.out]; rfl, hbl⟩

set_option maxHeartbeats 1000000 in
theorem refCommon_any (a b : ByteArray) (ha : a.size ≤ 140737488355328) (hb : b.size ≤ 140737488355328) (w : World) :
    Calls Tryd.prog 20 #[.string a, .string b] w fun e w' => e = .returned (.int .i64 (kCommon a.data.toList b.data.toList)) ∧ Below w.heap.size w w' := by
  have hfin : ∀ k, k ≤ a.size → k ≤ b.size → (∀ i, i < k → a.data.toList[i]? = b.data.toList[i]?) → (k = a.size ∨ k = b.size ∨ a.data.toList[k]? ≠ b.data.toList[k]?) → kCommon a.data.toList b.data.toList = k := fun k h1 h2 h h3 =>
    kCommon_eq _ _ k (by simpa using h1) (by simpa using h2) h (by rcases h3 with h3 | h3 | h3; exact .inl (by simp [h3]); exact .inr (.inl (by simp [h3])); exact .inr (.inr h3))
  have HF := Lib.hid hfin
  clear hfin
  go_enter Tryd.func20, Tryd.ntmps20
  go_wp2
  go_loopw [5] (fun v wr => ∃ k : Nat, k ≤ a.size ∧ k ≤ b.size ∧ v = .int .i64 k ∧ Hid (∀ i, i < k → a.data.toList[i]? = b.data.toList[i]?) ∧ Below w.heap.size w wr) (fun v _ => a.size - (intOf v).toNat)
  case atStart => exact ⟨0, by omega, by omega, rfl, fun i h => absurd h (Nat.not_lt_zero _), Below.refl _ _⟩
  case round =>
    obtain ⟨k, hk1, hk2, rfl, HA, hbl⟩ := hrel
    by_cases h1 : k < a.size
    · by_cases h2 : k < b.size
      · have ga := getB a k h1
        have gb := getB b k h2
        by_cases e : a[k] = b[k]
        · have HE := Lib.hid (show a.data.toList[k]? = b.data.toList[k]? by rw [ga, gb, e])
          have c1 : (((a[k].toNat : Int)) == (b[k].toNat : Int)) = true := by rw [e]; simp
          clear ga gb e
          go_wp2
          go_quiet (fail)
          go_wp2
          go_roundw
          case rel => exact ⟨k + 1, by omega, by omega, by go_num, alike_succ HA.out HE.out, below_drewN hbl _⟩
          case measure => simp [intOf]; omega
        · have HE := Lib.hid (show a.data.toList[k]? ≠ b.data.toList[k]? by rw [ga, gb]; simpa using e)
          have c1 : (((a[k].toNat : Int)) == (b[k].toNat : Int)) = false := by rw [beq_eq_false_iff_ne]; exact fun h => e (UInt8.toNat_inj.1 (by omega))
          clear ga gb e
          go_wp2
          go_quiet (fail)
          go_wp2
          go_ret
          exact ⟨by rw [HF.out k hk1 hk2 HA.out (.inr (.inr HE.out))]; rfl, below_drewN hbl _⟩
      · have c2 : decide ((k : Int) < (b.size : Int)) = false := by simp; omega
        go_wp2
        go_quiet (fail)
        go_wp2
        go_ret
        exact ⟨by rw [HF.out k hk1 hk2 HA.out (.inr (.inl (by omega)))]; rfl, below_drewN hbl _⟩
    · have c2 : decide ((k : Int) < (a.size : Int)) = false := by simp; omega
      go_wp2
      go_quiet (fail)
      go_wp2
      go_ret
      exact ⟨by rw [HF.out k hk1 hk2 HA.out (.inl (by omega))]; rfl, below_drewN hbl _⟩
end Go.Proofs.YtbcfbdkacnnkgaaDoor
