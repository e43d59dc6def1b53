/- plus, gcd and the reference's GCD. -/
import Derived.Test.YtjiefmihodfgpaaDoorShelf
import Derived.Test.YtjiefmihodfgpaaDoorRows
import Derived.Test.YtjiefmihodfgpaaDoorStatP
import Derived.WalkKit
import Derived.ProofKit
import Derived.Handy
import Derived.Lib.Hide
import Derived.Lib.Walk
import Derived.BigCall
import Derived.BigGuard
import Derived.WalkSmall
import Derived.BigQuiet
import Derived.Shelf.Spec.BitsCarry
import Derived.Lib.EndianBits
namespace Go.Proofs.YtjiefmihodfgpaaDoor
set_option linter.unusedVariables false
open Go.RowKit Go.Maps Go.Sort

set_option maxHeartbeats 1000000 in
theorem gcd_any : ∀ (n : Nat) (a b : Int), b.toNat < n → 0 ≤ a → a ≤ 18446744073709551615 → 0 ≤ b → b ≤ 18446744073709551615 → ∀ w : World,
    Calls Tryd.prog 52 #[.int .u64 a, .int .u64 b] w fun e w' => e = .returned (.int .u64 (gcdI a b)) ∧ w = w'
  | 0, a, b, h, _, _, _, _, _ => absurd h (Nat.not_lt_zero _)
  | n + 1, a, b, h, ha, ha2, hb, hb2, w => by
    by_cases h0 : b = 0
    · subst h0
      rw [gcdI_zero ha]
      go_enter Tryd.func52, Tryd.ntmps52
      go_wp2
      go_ret
      exact ⟨rfl, rfl⟩
    · have hp : 0 < b := by omega
      have hm1 : 0 ≤ a % b := Int.emod_nonneg _ (by omega)
      have hm2 : a % b < b := Int.emod_lt_of_pos _ hp
      have HI : Hid (∀ w : World, Calls Tryd.prog 52 #[.int .u64 b, .int .u64 (a % b)] w fun e w' => e = .returned (.int .u64 (gcdI b (a % b))) ∧ w = w') := gcd_any n b (a % b) (by omega) hb hb2 hm1 (by omega)
      rw [gcdI_step ha hp] at HI
      have ht : a.tmod b = a % b := Int.tmod_eq_emod_of_nonneg ha
      have h1 : (b == 0) = false := by simpa using h0
      go_enter Tryd.func52, Tryd.ntmps52
      go_wp2_with (go_at_call 52; refine (HI.out _).mono ?_; rintro e w' ⟨rfl, rfl⟩)
      go_ret
      exact ⟨rfl, rfl⟩

set_option maxHeartbeats 1000000 in
theorem refGCD_any (a b : Int) (ha : 0 ≤ a) (ha2 : a ≤ 18446744073709551615) (hb : 0 < b) (hb2 : b ≤ 18446744073709551615) (w : World) :
    Calls Tryd.prog 32 #[.int .u64 a, .int .u64 b] w fun e w' => e = .returned (.int .u64 (gcdI a b)) ∧ w = w' := by
  obtain ⟨G, hG⟩ : ∃ G, gcdI a b = G := ⟨_, rfl⟩
  rw [hG]
  go_enter Tryd.func32, Tryd.ntmps32
  go_wp2
  go_loop [0, 1] (fun u v => ∃ x y : Int, 0 ≤ x ∧ x ≤ 18446744073709551615 ∧ 0 < y ∧ y ≤ 18446744073709551615 ∧ u = .int .u64 x ∧ v = .int .u64 y ∧ gcdI x y = G) (fun u _ => (intOf u).toNat)
  case atStart => exact ⟨a, b, ha, ha2, hb, hb2, rfl, rfl, hG⟩
  case round =>
    obtain ⟨x, y, hx, hx2, hy, hy2, rfl, rfl, hg⟩ := hrel
    by_cases h0 : x = 0
    · subst h0
      rw [gcdI_comm, gcdI_zero (by omega)] at hg
      subst hg
      go_wp2
      go_ret
      exact ⟨rfl, rfl⟩
    · have hp : 0 < x := by omega
      have hm1 : 0 ≤ y % x := Int.emod_nonneg _ (by omega)
      have hm2 : y % x < x := Int.emod_lt_of_pos _ hp
      have ht : y.tmod x = y % x := Int.tmod_eq_emod_of_nonneg (by omega)
      have h1 : (x == 0) = false := by simpa using h0
      have HG : Hid (gcdI (y % x) x = G) := Lib.hid (by rw [gcdI_comm, gcdI_step (by omega) hp, gcdI_comm]; exact hg)
      clear hg h0
      go_wp2
      go_round
      case rel => exact ⟨y % x, x, hm1, by omega, hp, hx2, rfl, rfl, HG.out⟩
      case measure => simp [intOf]; omega

def addRen : Go.Shelf.Ren := ⟨fun | 25 => 51 | n => n, fun | 22 => 27 | n => n, fun n => n⟩
theorem addLays : Go.Proofs.Lays7.n25 Tryd.prog addRen := {
  mixed := by kernel_rfl
  f25 := Tryd.func51.trans (congrArg some (by kernel_rfl))
  t22 := Tryd.underlying27
  a22 := Tryd.isAgg27
  z22 := Tryd.sizeOf27
  v22 := Tryd.zeroValue27
  i22 := by kernel_rfl }
theorem add64_run (x y : Nat) (w : World) : (callFunc 51 #[.int .u64 x, .int .u64 y, .int .u64 0]).run Tryd.prog w =
    .ok (.value (.tuple #[.int .u64 (((x + y) % 18446744073709551616 : Nat) : Int), .int .u64 (((x + y) / 18446744073709551616 : Nat) : Int)])) w :=
  Any7.bits_Add64 (ρ := addRen) addLays x y 0 (by decide) w

theorem or_zero64 (a : Nat) (ha : a ≤ 18446744073709551615) : bits .or .u64 (a : Int) 0 = a := by
  have h := (bits_nat .u64 64 (by decide) (fun n h0 h1 => wraps_u64 n h0 h1) a 0 (by omega) (by omega)).2
  rw [Nat.or_zero] at h
  exact h
theorem or_full64 (a : Nat) (ha : a ≤ 18446744073709551615) : bits .or .u64 (a : Int) (IntKind.u64.wrap (-1)) = 18446744073709551615 := by
  have e : IntKind.u64.wrap (-1) = ((18446744073709551615 : Nat) : Int) := by rw [IntKind.wrap_u64]; decide
  rw [e]
  have h := (bits_nat .u64 64 (by decide) (fun n h0 h1 => wraps_u64 n h0 h1) a 18446744073709551615 (by omega) (by omega)).2
  have k : a ||| 18446744073709551615 = 18446744073709551615 := by
    apply Nat.eq_of_testBit_eq
    intro i
    rw [Nat.testBit_or, show (18446744073709551615 : Nat) = 2 ^ 64 - 1 from by decide, Nat.testBit_two_pow_sub_one]
    by_cases hi : i < 64
    · simp [hi]
    · rw [Nat.testBit_lt_two_pow (Nat.lt_of_lt_of_le (by omega : a < 2 ^ 64) (Nat.pow_le_pow_right (by omega) (by omega)))]
      simp
  rw [k] at h
  exact h
set_option maxHeartbeats 1000000 in
theorem plus_any (x y : Nat) (hx : x ≤ 18446744073709551615) (hy : y ≤ 18446744073709551615) (w : World) :
    Calls Tryd.prog 38 #[.int .u64 x, .int .u64 y] w fun e w' => e = .returned (.int .u64 (plus64 x y)) ∧ w = w' := by
  by_cases h : x + y ≤ 18446744073709551615
  · have hr : ∀ w : World, (callFunc 51 #[.int .u64 x, .int .u64 y, .int .u64 0]).run Tryd.prog w = .ok (.value (.tuple #[.int .u64 (((x + y : Nat) : Int)), .int .u64 0])) w := fun w => by
      rw [add64_run, Nat.mod_eq_of_lt (by omega), Nat.div_eq_of_lt (by omega)]; rfl
    have hp : plus64 x y = ((x + y : Nat) : Int) := by unfold plus64; rw [if_pos (by omega)]; omega
    rw [hp]
    go_enter Tryd.func38, Tryd.ntmps38
    go_wp2_with (simp only [hr])
    go_ret
    refine ⟨?_, rfl⟩
    have := or_zero64 (x + y) h
    simpa using this
  · have hr : ∀ w : World, (callFunc 51 #[.int .u64 x, .int .u64 y, .int .u64 0]).run Tryd.prog w = .ok (.value (.tuple #[.int .u64 (((x + y - 18446744073709551616 : Nat) : Int)), .int .u64 1])) w := fun w => by
      rw [add64_run, show (x + y) / 18446744073709551616 = 1 from by omega, show (x + y) % 18446744073709551616 = x + y - 18446744073709551616 from by omega]; rfl
    have hp : plus64 x y = 18446744073709551615 := by unfold plus64; rw [if_neg (by omega)]
    rw [hp]
    go_enter Tryd.func38, Tryd.ntmps38
    go_wp2_with (simp only [hr])
    go_ret
    exact ⟨by rw [or_full64 _ (by omega)]; rfl, rfl⟩
end Go.Proofs.YtjiefmihodfgpaaDoor
