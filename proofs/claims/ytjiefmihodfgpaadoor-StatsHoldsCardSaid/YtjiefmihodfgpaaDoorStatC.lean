/- The program's Ratio. -/
import Derived.Test.YtjiefmihodfgpaaDoorStatB
namespace Go.Proofs.YtjiefmihodfgpaaDoor
set_option linter.unusedVariables false
open Go.RowKit Go.Maps Go.Sort
section
variable (f s i : Nat) (l : List Int) (p : Option Addr) (cap : Nat) (w : World)
set_option maxHeartbeats 1000000 in
theorem ratio_ok (h2 : l[2]? = some (i : Int)) (h3 : l[3]? = some (f : Int)) (h4 : l[4]? = some (s : Int)) (hi : i ≤ 18446744073709551615) (hf : f ≤ 18446744073709551615) (hs : s ≤ 18446744073709551615) (hC : U64At w p l) :
    Calls Tryd.prog 33 #[.slice p 16 cap] w fun e w' => e = .returned (.tuple #[.int .u64 (ratioOf f s i).1, .int .u64 (ratioOf f s i).2.1, .int .i64 (ratioOf f s i).2.2]) ∧ Below w.heap.size w w' := by
  obtain ⟨blk, off, rfl, _, c2⟩ := hC 2 _ h2
  obtain ⟨blk', off', e, _, c3⟩ := hC 3 _ h3
  obtain ⟨rfl, rfl⟩ : blk = blk' ∧ off = off' := by injection e with e; injection e with e1 e2; exact ⟨e1, e2⟩
  obtain ⟨blk', off', e', _, c4⟩ := hC 4 _ h4
  obtain ⟨rfl, rfl⟩ : blk = blk' ∧ off = off' := by injection e' with e'; injection e' with e1 e2; exact ⟨e1, e2⟩
  clear hC h2 h3 h4 e e'
  by_cases h1 : f + s ≤ 18446744073709551615
  · have hr : ∀ w : World, (callFunc 51 #[.int .u64 f, .int .u64 s, .int .u64 0]).run Tryd.prog w = .ok (.value (.tuple #[.int .u64 ((f : Int) + s), .int .u64 0])) w := fun w => by
      rw [add64_run, Nat.mod_eq_of_lt (by omega), Nat.div_eq_of_lt (by omega)]; rfl
    by_cases h0 : i = 0
    · subst h0
      rw [show ratioOf f s ((0 : Nat) : Int) = (0, 0, 9) from rfl]
      go_enter Tryd.func33, Tryd.ntmps33
      go_wp2_with fail
      go_quiet (simp only [hr])
      go_wp2_with fail
      refine bodyPost_ret (v := .tuple #[.int .u64 0, .int .u64 0, .int .i64 9]) (by simp [results, Tryd.results33, go_sem]) rfl ⟨rfl, by (repeat' (first | exact Below.refl _ _ | refine below_drewN ?_ _))⟩
    · have hz : ((i : Int) == 0) = false := by rw [beq_eq_false_iff_ne]; omega
      by_cases h5 : (i : Int) < f + s
      · rw [show ratioOf f s i = (0, 0, 3) from by unfold ratioOf; rw [if_neg (by omega), if_pos h5]]
        go_enter Tryd.func33, Tryd.ntmps33
        go_wp2_with fail
        go_quiet (simp only [hr])
        go_wp2_with fail
        refine bodyPost_ret (v := .tuple #[.int .u64 0, .int .u64 0, .int .i64 3]) (by simp [results, Tryd.results33, go_sem]) rfl ⟨rfl, by (repeat' (first | exact Below.refl _ _ | refine below_drewN ?_ _))⟩
      · have HG : Hid (∀ w : World, Calls Tryd.prog 52 #[.int .u64 ((f : Int) + s), .int .u64 i] w fun e w' => e = .returned (.int .u64 (gcdI ((f : Int) + s) i)) ∧ w = w') := fun w => gcd_any (i + 1) ((f : Int) + s) i (by omega) (by omega) (by omega) (by omega) (by omega) w
        have hg1 := gcdI_pos (a := (f : Int) + s) (b := i) (by omega)
        have hg2 := gcdI_le (a := (f : Int) + s) (b := i) (by omega)
        rw [show ratioOf f s i = (((f : Int) + s) / gcdI ((f : Int) + s) i, i / gcdI ((f : Int) + s) i, 0) from by unfold ratioOf; rw [if_neg (by omega), if_neg h5]]
        generalize gcdI ((f : Int) + s) i = d at *
        have q4 : ((f : Int) + s).tdiv d = ((f : Int) + s) / d := Int.tdiv_eq_ediv_of_nonneg (by omega)
        have q5 : (i : Int).tdiv d = i / d := Int.tdiv_eq_ediv_of_nonneg (by omega)
        have q6 : (d == 0) = false := by rw [beq_eq_false_iff_ne]; omega
        have q7 : IntKind.u64.wrap (((f : Int) + s) / d) = ((f : Int) + s) / d := wraps_u64 _ (Int.ediv_nonneg (by omega) (by omega)) (by have := Int.ediv_le_self (b := d) (a := (f : Int) + s) (by omega); omega)
        have q8 : IntKind.u64.wrap ((i : Int) / d) = i / d := wraps_u64 _ (Int.ediv_nonneg (by omega) (by omega)) (by have := Int.ediv_le_self (b := d) (a := (i : Int)) (by omega); omega)
        go_enter Tryd.func33, Tryd.ntmps33
        go_wp2_with fail
        go_quiet (simp only [hr])
        go_wp2_with (go_at_call 52; refine (HG.out _).mono ?_; rintro e w' ⟨rfl, rfl⟩)
        go_quiet (fail)
        go_wp2_with fail
        refine bodyPost_ret (v := .tuple #[.int .u64 (((f : Int) + s) / d), .int .u64 ((i : Int) / d), .int .i64 0]) (by simp [results, Tryd.results33, go_sem]) rfl ⟨rfl, by (repeat' (first | exact Below.refl _ _ | refine below_drewN ?_ _))⟩
  · have hr : ∀ w : World, (callFunc 51 #[.int .u64 f, .int .u64 s, .int .u64 0]).run Tryd.prog w = .ok (.value (.tuple #[.int .u64 ((f + s - 18446744073709551616 : Nat) : Int), .int .u64 1])) w := fun w => by
      rw [add64_run, show (f + s) / 18446744073709551616 = 1 from by omega, show (f + s) % 18446744073709551616 = f + s - 18446744073709551616 from by omega]; rfl
    by_cases h0 : i = 0
    · subst h0
      rw [show ratioOf f s ((0 : Nat) : Int) = (0, 0, 9) from rfl]
      go_enter Tryd.func33, Tryd.ntmps33
      go_wp2_with fail
      go_quiet (simp only [hr])
      go_wp2_with fail
      refine bodyPost_ret (v := .tuple #[.int .u64 0, .int .u64 0, .int .i64 9]) (by simp [results, Tryd.results33, go_sem]) rfl ⟨rfl, by (repeat' (first | exact Below.refl _ _ | refine below_drewN ?_ _))⟩
    · have hz : ((i : Int) == 0) = false := by rw [beq_eq_false_iff_ne]; omega
      rw [show ratioOf f s i = (0, 0, 3) from by unfold ratioOf; rw [if_neg (by omega), if_pos (by omega)]]
      go_enter Tryd.func33, Tryd.ntmps33
      go_wp2_with fail
      go_quiet (simp only [hr])
      go_wp2_with fail
      refine bodyPost_ret (v := .tuple #[.int .u64 0, .int .u64 0, .int .i64 3]) (by simp [results, Tryd.results33, go_sem]) rfl ⟨rfl, by (repeat' (first | exact Below.refl _ _ | refine below_drewN ?_ _))⟩
end
end Go.Proofs.YtjiefmihodfgpaaDoor
