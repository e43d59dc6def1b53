/- Ratio on both sides. -/
import Derived.Test.YtjiefmihodfgpaaDoorStatA
import Derived.Test.YtjiefmihodfgpaaDoorStrs
namespace Go.Proofs.YtjiefmihodfgpaaDoor
set_option linter.unusedVariables false
open Go.RowKit Go.Maps Go.Sort

def ratioOf (f s i : Int) : Int × Int × Int :=
  if i = 0 then (0, 0, 9) else if i < f + s then (0, 0, 3) else ((f + s) / gcdI (f + s) i, i / gcdI (f + s) i, 0)
/-- What a walk wants of a list of counts: each cell, by its index. -/
def U64At (w : World) (p : Option Addr) (l : List Int) : Prop :=
  ∀ i x, l[i]? = some x → ∃ blk off, p = some ⟨blk, off, none⟩ ∧ blk < w.heap.size ∧ w.cell? ⟨blk, off + i, none⟩ = some (.int .u64 x)
theorem u64At_reads {w : World} {p : Option Addr} {l : List Int} {n cap : Nat} (h : Reads w (.slice p n cap) (l.map (Value.int .u64))) : n = l.length ∧ U64At w p l := by
  obtain ⟨q, c, e, _, h2⟩ := h
  injection e with e1 e2 e3
  subst e1 e2 e3
  refine ⟨by rw [List.length_map], fun i x hx => ?_⟩
  rcases h2 with h0 | ⟨blk, off, hp, hb, _, hc⟩
  · rw [List.length_map] at h0
    rw [List.eq_nil_of_length_eq_zero h0] at hx
    cases hx
  · exact ⟨blk, off, hp, hb, hc i _ (by rw [List.getElem?_map, hx]; rfl)⟩

set_option maxHeartbeats 1000000 in
theorem ratio_bad (p : Option Addr) (n cap : Nat) (hn : n ≤ 1000) (h : n ≠ 16) (w : World) :
    Calls Tryd.prog 33 #[.slice p n cap] w fun e w' => e = .returned (.tuple #[.int .u64 0, .int .u64 0, .int .i64 2]) ∧ w = w' := by
  have h1 : ((n : Int) == 16) = false := by rw [beq_eq_false_iff_ne]; omega
  go_enter Tryd.func33, Tryd.ntmps33
  go_wp2
  refine bodyPost_ret (v := .tuple #[.int .u64 0, .int .u64 0, .int .i64 2]) (by simp [results, Tryd.results33, go_sem]) rfl ⟨rfl, rfl⟩
set_option maxHeartbeats 1000000 in
theorem refRatio_bad (p : Option Addr) (n cap : Nat) (hn : n ≤ 1000) (h : n ≠ 16) (w : World) :
    Calls Tryd.prog 11 #[.slice p n cap] w fun e w' => e = .returned (.tuple #[.int .u64 0, .int .u64 0, .int .i64 2]) ∧ w = w' := by
  have h1 : ((n : Int) == 16) = false := by rw [beq_eq_false_iff_ne]; omega
  go_enter Tryd.func11, Tryd.ntmps11
  go_wp2
  refine bodyPost_ret (v := .tuple #[.int .u64 0, .int .u64 0, .int .i64 2]) (by simp [results, Tryd.results11, go_sem]) rfl ⟨rfl, rfl⟩

section
variable (f s i : Int) (l : List Int) (p : Option Addr) (cap : Nat) (w : World)
set_option maxHeartbeats 1000000 in
theorem refRatio_ok (hl : l.length = 16) (h2 : l[2]? = some i) (h3 : l[3]? = some f) (h4 : l[4]? = some s) (hi : 0 ≤ i ∧ i ≤ 18446744073709551615) (hf : 0 ≤ f ∧ f ≤ 18446744073709551615) (hs : 0 ≤ s ∧ s ≤ 18446744073709551615) (hC : U64At w p l) :
    Calls Tryd.prog 11 #[.slice p 16 cap] w fun e w' => e = .returned (.tuple #[.int .u64 (ratioOf f s i).1, .int .u64 (ratioOf f s i).2.1, .int .i64 (ratioOf f s i).2.2]) ∧ Below w.heap.size w w' := by
  obtain ⟨hi1, hi2⟩ := hi
  obtain ⟨hf1, hf2⟩ := hf
  obtain ⟨hs1, hs2⟩ := hs
  obtain ⟨blk, off, rfl, _, c2⟩ := hC 2 i h2
  obtain ⟨blk', off', e, _, c3⟩ := hC 3 f h3
  obtain ⟨rfl, rfl⟩ : blk = blk' ∧ off = off' := by injection e with e; injection e with e1 e2; exact ⟨e1, e2⟩
  obtain ⟨blk', off', e', _, c4⟩ := hC 4 s h4
  obtain ⟨rfl, rfl⟩ : blk = blk' ∧ off = off' := by injection e' with e'; injection e' with e1 e2; exact ⟨e1, e2⟩
  clear hC h2 h3 h4 e e'
  by_cases h0 : i = 0
  · subst h0
    rw [show ratioOf f s 0 = (0, 0, 9) from rfl]
    go_enter Tryd.func11, Tryd.ntmps11
    go_wp2
    refine bodyPost_ret (v := .tuple #[.int .u64 0, .int .u64 0, .int .i64 9]) (by simp [results, Tryd.results11, go_sem]) rfl ⟨rfl, Below.refl _ _⟩
  · have hz : (i == 0) = false := by simpa using h0
    have q1 : f ≤ i → IntKind.u64.wrap (i - f) = i - f := fun h => wraps_u64 _ (by omega) (by omega)
    by_cases h1 : i < f + s
    · rw [show ratioOf f s i = (0, 0, 3) from by unfold ratioOf; rw [if_neg h0, if_pos h1]]
      by_cases hfi : i < f
      · clear q1
        go_enter Tryd.func11, Tryd.ntmps11
        go_wp2_with fail
        go_quiet (fail)
        go_wp2_with fail
        refine bodyPost_ret (v := .tuple #[.int .u64 0, .int .u64 0, .int .i64 3]) (by simp [results, Tryd.results11, go_sem]) rfl ⟨rfl, below_drewN (Below.refl _ _) _⟩
      · have q2 := q1 (by omega)
        have h5 : i - f < s := by omega
        clear q1
        go_enter Tryd.func11, Tryd.ntmps11
        go_wp2_with fail
        go_quiet (fail)
        go_wp2_with fail
        refine bodyPost_ret (v := .tuple #[.int .u64 0, .int .u64 0, .int .i64 3]) (by simp [results, Tryd.results11, go_sem]) rfl ⟨rfl, below_drewN (Below.refl _ _) _⟩
    · have hfi : f ≤ i := by omega
      have q2 := q1 hfi
      have h5 : s ≤ i - f := by omega
      have q3 : IntKind.u64.wrap (f + s) = f + s := wraps_u64 _ (by omega) (by omega)
      have HG : Hid (∀ w : World, Calls Tryd.prog 32 #[.int .u64 (f + s), .int .u64 i] w fun e w' => e = .returned (.int .u64 (gcdI (f + s) i)) ∧ w = w') := fun w => refGCD_any (f + s) i (by omega) (by omega) (by omega) (by omega) w
      have hg1 := gcdI_pos (a := f + s) (b := i) (by omega)
      have hg2 := gcdI_le (a := f + s) (b := i) (by omega)
      rw [show ratioOf f s i = ((f + s) / gcdI (f + s) i, i / gcdI (f + s) i, 0) from by unfold ratioOf; rw [if_neg h0, if_neg h1]]
      generalize gcdI (f + s) i = d at *
      have q4 : (f + s).tdiv d = (f + s) / d := Int.tdiv_eq_ediv_of_nonneg (by omega)
      have q5 : i.tdiv d = i / d := Int.tdiv_eq_ediv_of_nonneg (by omega)
      have q6 : (d == 0) = false := by rw [beq_eq_false_iff_ne]; omega
      have q7 : IntKind.u64.wrap ((f + s) / d) = (f + s) / d := wraps_u64 _ (Int.ediv_nonneg (by omega) (by omega)) (by have := Int.ediv_le_self (b := d) (a := f + s) (by omega); omega)
      have q8 : IntKind.u64.wrap (i / d) = i / d := wraps_u64 _ (Int.ediv_nonneg (by omega) (by omega)) (by have := Int.ediv_le_self (b := d) (a := i) (by omega); omega)
      clear q1
      go_enter Tryd.func11, Tryd.ntmps11
      go_wp2_with fail
      go_quiet (fail)
      go_wp2_with fail
      go_quiet (fail)
      go_wp2_with (go_at_call 32; refine (HG.out _).mono ?_; rintro e w' ⟨rfl, rfl⟩)
      go_quiet (fail)
      go_wp2_with fail
      refine bodyPost_ret (v := .tuple #[.int .u64 ((f + s) / d), .int .u64 (i / d), .int .i64 0]) (by simp [results, Tryd.results11, go_sem]) rfl ⟨rfl, below_drewN (below_drewN (Below.refl _ _) _) _⟩
end
end Go.Proofs.YtjiefmihodfgpaaDoor
