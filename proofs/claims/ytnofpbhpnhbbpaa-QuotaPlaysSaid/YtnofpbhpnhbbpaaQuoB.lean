/- Contracts of allows, idle, none, may, Effective. -/
import Derived.Test.YtnofpbhpnhbbpaaQuoA
import Derived.Test.YtnofpbhpnhbbpaaQuoM
namespace Go.Proofs.Ytnofpbhpnhbbpaa
set_option linter.unusedVariables false
open Go.RowKit

theorem ret_int {k : IntKind} {a b : Int} (h : a = b) : Ending.returned (.int k a) = .returned (.int k b) := by rw [h]
theorem ret_bool {a b : Bool} (h : a = b) : Ending.returned (.bool a) = .returned (.bool b) := by rw [h]
set_option maxHeartbeats 1000000 in
theorem effective_any (a b : Nat) (w : World) :
    Calls Try.prog 23 #[.int .u64 (a : Int), .int .u64 (b : Int)] w fun e w' => e = .returned (.int .u64 ((max a b : Nat) : Int)) ∧ w = w' := by
  go_enter Try.func23, Try.ntmps23
  go_wp2
  go_ret
  exact ⟨ret_int (by omega), rfl⟩
set_option maxHeartbeats 1000000 in
theorem none_nil (w : World) : Calls Try.prog 27 #[.pointer none] w fun e w' => e = .returned (.bool true) ∧ w = w' := by
  go_enter Try.func27, Try.ntmps27
  go_wp2
  go_ret
  exact ⟨rfl, rfl⟩
theorem map_ne (b : Nat) (w : World) : Sem.run Try.prog (binOp BinOp.eql 59 (.map (some b)) (.map none)) w = .ok (.bool false) w := by
  kernel_rfl
set_option maxHeartbeats 1000000 in
set_option maxRecDepth 100000 in
theorem none_at (g : Nat) (r : Rl) (now b : Nat) (w : World) (h : BkC w g r now b) : Calls Try.prog 27 #[.pointer (some ⟨g, 0, none⟩)] w fun e w' => e = .returned (.bool false) ∧ w = w' := by
  obtain ⟨c0, c1, c2, c3, c4⟩ := h.cells
  have hne := map_ne b
  go_enter Try.func27, Try.ntmps27
  go_wp2
  go_ret
  exact ⟨rfl, rfl⟩
def mayE (t : Nat) (s : List UInt8) (k : Int) : Int := if s.length = 0 ∨ 32 < s.length ∨ k < 0 then 2 else if t > 4611686018427387904 then 3 else 0
theorem bytes_nil {s : ByteArray} : s.toList = [] ↔ s.size = 0 := by
  rw [ByteArray.toList_eq, ← List.length_eq_zero_iff]
  exact Iff.rfl
set_option maxHeartbeats 1000000 in
set_option maxRecDepth 100000 in
theorem may_nil (t : Nat) (s : ByteArray) (k : Int) (w : World) : Calls Try.prog 22 #[.pointer none, .int .u64 (t : Int), .string s, .int .i64 k] w fun e w' => e = .returned (.int .i64 1) ∧ w = w' := by
  go_enter Try.func22, Try.ntmps22
  go_wp2_with (go_at_call 27; refine (none_nil _).mono ?_; rintro e w' ⟨rfl, rfl⟩)
  go_ret
  exact ⟨rfl, rfl⟩
set_option maxHeartbeats 1000000 in
set_option maxRecDepth 100000 in
theorem may_at (g : Nat) (r : Rl) (now b t : Nat) (s : ByteArray) (k : Int) (hs : s.size ≤ 140737488355328) (w : World) (h : BkC w g r now b) : Calls Try.prog 22 #[.pointer (some ⟨g, 0, none⟩), .int .u64 (t : Int), .string s, .int .i64 k] w fun e w' => e = .returned (.int .i64 (mayE t s.data.toList k)) ∧ w = w' := by
  have HN := Lib.hid (none_at g r now b w h)
  have hl := Lib.hid (show s.data.toList.length = s.size by rw [Array.length_toList]; rfl)
  go_enter Try.func22, Try.ntmps22
  go_wp2_with (go_at_call 27; refine HN.out.mono ?_; rintro e w' ⟨rfl, rfl⟩)
  all_goals
    go_ret
    refine ⟨ret_int ?_, rfl⟩
    simp only [bytes_nil, List.isEmpty_iff] at *
    clear hs
    have hl2 := hl.out
    unfold mayE
    rw [hl2]
    clear HN hl hl2
    repeat (first | rfl | omega | split)
end Go.Proofs.Ytnofpbhpnhbbpaa
