/- Contracts of digit, half and Index over the digits. -/
import Derived.Test.YtbcfbdkacnnkgaaDoorTextR
namespace Go.Proofs.YtbcfbdkacnnkgaaDoor
set_option linter.unusedVariables false
open Go.RowKit

theorem hexV_at (k : Nat) (hk : k < 16) : hexV (hexD k) = some k := by
  have : ∀ q : Fin 16, hexV (hexD q.val) = some q.val := by decide +kernel
  exact this ⟨k, hk⟩
theorem hexV_none (c : UInt8) (h : ∀ j, j < 16 → hexD j ≠ c) : hexV c = none := by
  cases h1 : hexV c with
  | none => rfl
  | some a => exact absurd (hexV_some h1).2 (h a (hexV_some h1).1)
theorem hexS_at (k : Nat) (hk : k < 16) : ({ data := #[48, 49, 50, 51, 52, 53, 54, 55, 56, 57, 97, 98, 99, 100, 101, 102] } : ByteArray)[k]'(by exact hk) = hexD k := by
  have : ∀ q : Fin 16, ({ data := #[48, 49, 50, 51, 52, 53, 54, 55, 56, 57, 97, 98, 99, 100, 101, 102] } : ByteArray)[q.val]'(by exact q.isLt) = hexD q.val := by decide +kernel
  exact this ⟨k, hk⟩

def digRes (o : Option Nat) : Value := match o with
  | some a => .tuple #[.int .u8 a, .bool true]
  | none => .tuple #[.int .u8 0, .bool false]
def halfRes (o : Option Nat) : Int := match o with
  | some a => a
  | none => -1

set_option maxHeartbeats 1000000 in
theorem refDigit_any (c : UInt8) (w : World) :
    Calls Tryd.prog 46 #[.int .u8 (c.toNat : Int)] w fun e w' => e = .returned (digRes (hexV c)) ∧ Below w.heap.size w w' := by
  go_enter Tryd.func46, Tryd.ntmps46
  go_wp2
  go_loopw [4] (fun i wr => ∃ k : Nat, k ≤ 16 ∧ i = .int .i64 k ∧ Hid (∀ j, j < k → hexD j ≠ c) ∧ Below w.heap.size w wr) (fun i _ => 16 - (intOf i).toNat)
  case atStart => exact ⟨0, by omega, rfl, fun j hj => by omega, Below.refl _ _⟩
  case round =>
    obtain ⟨k, hk, rfl, HN, hbl⟩ := hrel
    by_cases hlt : k < 16
    · have ha := hexS_at k hlt
      by_cases e : hexD k = c
      · have hv : hexV c = some k := by rw [← e]; exact hexV_at k hlt
        have c1 : (((hexD k).toNat : Int) == (c.toNat : Int)) = true := by rw [e]; simp
        have HV := Lib.hid hv
        clear hv e
        go_wp2
        go_ret2
        rw [HV.out]
        exact ⟨rfl, hbl⟩
      · have c1 : (((hexD k).toNat : Int) == (c.toNat : Int)) = false := beq_eq_false_iff_ne.2 (fun h => e (UInt8.toNat_inj.1 (by omega)))
        have HN2 : Hid (∀ j, j < k + 1 → hexD j ≠ c) := by
          intro j hj
          rcases Nat.lt_succ_iff_lt_or_eq.1 hj with h | rfl
          · exact HN.out j h
          · exact e
        clear e HN
        go_wp2
        exact ⟨⟨k + 1, by omega, by go_num, HN2, hbl⟩, by simp [intOf]; omega⟩
    · obtain rfl : k = 16 := by omega
      have HV := Lib.hid (hexV_none c HN.out)
      go_wp2
      go_ret2
      rw [HV.out]
      exact ⟨rfl, hbl⟩

/-- The digits as they lie in the program's table. -/
def Digits (w : World) : Prop := ∀ k, k < 16 → w.cell? ⟨0, k, none⟩ = some (.int .u8 ((hexD k).toNat : Int))
theorem Digits.below {w w' : World} (h : Digits w) (hb : Below w.heap.size w w') : Digits w' := by
  intro k hk
  have h1 := h k hk
  have hlt : 0 < w.heap.size := by
    rcases Nat.lt_or_ge 0 w.heap.size with h' | h'
    · exact h'
    · simp [World.cell?, Array.getElem?_eq_none h'] at h1
  rw [hb.cell (p := ⟨0, k, none⟩) hlt]
  exact h1

set_option maxHeartbeats 1000000 in
theorem index_any (c : UInt8) (w : World) (hD : Digits w) :
    Calls Tryd.prog 58 #[.slice (some ⟨0, 0, none⟩) 16 16, .int .u8 (c.toNat : Int)] w fun e w' => e = .returned (.int .i64 (halfRes (hexV c))) ∧ w' = w := by
  have HD := Lib.hid hD
  clear hD
  go_enter Tryd.func58, Tryd.ntmps58
  go_wp2
  go_loopw [8] (fun i wr => ∃ k : Nat, k ≤ 16 ∧ i = .int .i64 k ∧ Hid (∀ j, j < k → hexD j ≠ c) ∧ wr = w) (fun i _ => 16 - (intOf i).toNat)
  case atStart => exact ⟨0, by omega, rfl, fun j hj => by omega, rfl⟩
  case round =>
    obtain ⟨k, hk, rfl, HN, rfl⟩ := hrel
    by_cases hlt : k < 16
    · have ha := HD.out k hlt
      by_cases e : hexD k = c
      · have hv : hexV c = some k := by rw [← e]; exact hexV_at k hlt
        have c1 : ((c.toNat : Int) == ((hexD k).toNat : Int)) = true := by rw [e]; simp
        have HV := Lib.hid hv
        clear hv e
        go_wp2
        go_ret
        rw [HV.out]
        exact ⟨rfl, rfl⟩
      · have c1 : ((c.toNat : Int) == ((hexD k).toNat : Int)) = false := beq_eq_false_iff_ne.2 (fun h => e (UInt8.toNat_inj.1 (by omega)))
        have HN2 : Hid (∀ j, j < k + 1 → hexD j ≠ c) := by
          intro j hj
          rcases Nat.lt_succ_iff_lt_or_eq.1 hj with h | rfl
          · exact HN.out j h
          · exact e
        clear e HN
        go_wp2
        exact ⟨⟨k + 1, by omega, by go_num, HN2, by trivial⟩, by simp [intOf]; omega⟩
    · obtain rfl : k = 16 := by omega
      have HV := Lib.hid (hexV_none c HN.out)
      go_wp2
      go_ret
      rw [HV.out]
      exact ⟨rfl, rfl⟩

set_option maxHeartbeats 1000000 in
theorem half_any (c : UInt8) (w : World) (hD : Digits w) :
    Calls Tryd.prog 47 #[.int .u8 (c.toNat : Int)] w fun e w' => e = .returned (.int .i64 (halfRes (hexV c))) ∧ w' = w := by
  have HD := Lib.hid hD
  clear hD
  go_enter Tryd.func47, Tryd.ntmps47
  go_wp2_with (go_at_call 58; refine (index_any _ _ HD.out).mono ?_; rintro e w' ⟨rfl, rfl⟩)
  go_ret
  exact ⟨rfl, rfl⟩
end Go.Proofs.YtbcfbdkacnnkgaaDoor
