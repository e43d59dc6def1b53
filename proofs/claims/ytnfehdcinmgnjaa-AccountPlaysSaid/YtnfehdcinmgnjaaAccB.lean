/- Contracts of account's other methods and of the reference. -/
import Derived.Test.YtnfehdcinmgnjaaAccA
namespace Go.Proofs.Ytnfehdcinmgnjaa
set_option linter.unusedVariables false
open Go.RowKit

def newOk (x y : Int) : Bool := decide (1 ≤ x ∧ x ≤ 1099511627776 ∧ 1 ≤ y ∧ y ≤ 1048576)
set_option maxHeartbeats 1000000 in
theorem new_yes (x y : Int) (h1 : 1 ≤ x) (h2 : x ≤ 1099511627776) (h3 : 1 ≤ y) (h4 : y ≤ 1048576) (w : World) :
    Calls Try.prog 11 #[.int .i64 x, .int .i64 y] w fun e w' => e = .returned (.tuple #[.pointer (some ⟨w.heap.size, 0, none⟩), .int .i64 0]) ∧ AccAt w' w.heap.size ⟨x, y, 0, 0⟩ ∧ Below w.heap.size w w' := by
  go_enter Try.func11, Try.ntmps11
  go_wp2
  go_ret2
  exact ⟨rfl, Blk.new _ _ _, (Below.refl _ _).alloc (Nat.le_refl _) _⟩
set_option maxHeartbeats 1000000 in
theorem new_no (x y : Int) (h : newOk x y = false) (w : World) :
    Calls Try.prog 11 #[.int .i64 x, .int .i64 y] w fun e w' => e = .returned (.tuple #[.pointer none, .int .i64 2]) ∧ w = w' := by
  have h1 : x < 1 ∨ (1 ≤ x ∧ 1099511627776 < x) ∨ (1 ≤ x ∧ x ≤ 1099511627776 ∧ y < 1) ∨ (1 ≤ x ∧ x ≤ 1099511627776 ∧ 1 ≤ y ∧ 1048576 < y) := by
    have : ¬ (1 ≤ x ∧ x ≤ 1099511627776 ∧ 1 ≤ y ∧ y ≤ 1048576) := by simpa [newOk] using h
    omega
  clear h
  rcases h1 with h1 | ⟨h1, h2⟩ | ⟨h1, h2, h3⟩ | ⟨h1, h2, h3, h4⟩
  all_goals
    go_enter Try.func11, Try.ntmps11
    go_wp2
    go_ret2
    exact ⟨rfl, rfl⟩

section
variable (b : Nat) (A : Ac) (w : World) (h : AccAt w b A) (hA : AcOk A)
include h hA
set_option maxHeartbeats 1000000 in
theorem used_at : Calls Try.prog 16 #[.pointer (some ⟨b, 0, none⟩)] w fun e w' => e = .returned (.tuple #[.int .i64 A.ub, .int .i64 A.ue]) ∧ Below w.heap.size w w' := by
  have hb0 := hA.b0
  have H := Lib.hid h
  obtain ⟨c0, c1, c2, c3⟩ := h.cells
  clear h hA
  go_enter Try.func16, Try.ntmps16
  go_wp2_with (go_at_call 33; refine (zero_at b A _ H.out hb0).mono ?_; rintro e w' ⟨rfl, rfl⟩)
  go_quiet (fail)
  go_wp2_with fail
  go_ret2
  exact ⟨rfl, below_drewN (Below.refl _ _) _⟩
set_option maxHeartbeats 1000000 in
theorem budget_at : Calls Try.prog 39 #[.pointer (some ⟨b, 0, none⟩)] w fun e w' => e = .returned (.tuple #[.int .i64 A.bb, .int .i64 A.be]) ∧ Below w.heap.size w w' := by
  have hb0 := hA.b0
  have H := Lib.hid h
  obtain ⟨c0, c1, c2, c3⟩ := h.cells
  clear h hA
  go_enter Try.func39, Try.ntmps39
  go_wp2_with (go_at_call 33; refine (zero_at b A _ H.out hb0).mono ?_; rintro e w' ⟨rfl, rfl⟩)
  go_quiet (fail)
  go_wp2_with fail
  go_ret2
  exact ⟨rfl, below_drewN (Below.refl _ _) _⟩
set_option maxHeartbeats 1000000 in
theorem over_at : Calls Try.prog 32 #[.pointer (some ⟨b, 0, none⟩)] w fun e w' => e = .returned (.tuple #[.int .i64 (max 0 (A.ub - A.bb)), .int .i64 (max 0 (A.ue - A.be))]) ∧ Below w.heap.size w w' := by
  obtain ⟨hb0, hb1, he0, he1, hu0, hu1, hs0, hs1⟩ := hA
  have H := Lib.hid h
  have HM : Hid (∀ w, Calls Try.prog 31 #[.agg #[.int .i64 A.ub, .int .i64 A.ue], .agg #[.int .i64 A.bb, .int .i64 A.be]] w fun e w' => e = .returned (.agg #[.int .i64 (A.ub - A.bb), .int .i64 (A.ue - A.be)]) ∧ Below w.heap.size w w') := fun w =>
    minus_any A.ub A.ue A.bb A.be (by omega) (by omega) (by omega) (by omega) w
  obtain ⟨c0, c1, c2, c3⟩ := h.cells
  have n0 := World.new_ne w _ c0
  have n1 := World.new_ne w _ c1
  have n2 := World.new_ne w _ c2
  have n3 := World.new_ne w _ c3
  clear h
  go_enter Try.func32, Try.ntmps32
  go_wp2_with fail
  refine (zero_at b A _ H.out hb0).mono ?_
  rintro e w' ⟨rfl, rfl⟩
  go_wp2_with fail
  go_region_held3 (fun w' => w'.cell? ⟨b, 0, none⟩ = some (.int .i64 A.bb) ∧ w'.cell? ⟨b, 1, none⟩ = some (.int .i64 A.be) ∧ w'.cell? ⟨b, 2, none⟩ = some (.int .i64 A.ub) ∧ w'.cell? ⟨b, 3, none⟩ = some (.int .i64 A.ue)) (go_keep) (first
    | (go_at_call 31; refine (HM.out _).mono ?_; rintro e w' ⟨rfl, hb2⟩; (have hk : Blk w' w.heap.size 54 #[.int .i64 0, .int .i64 0] := Blk.below (Blk.new w.drew 54 #[.int .i64 0, .int .i64 0]) hb2 (by simp)); obtain ⟨k0, k1, k2, k3⟩ := AccAt.cells (show AccAt w' b A from Blk.below (Blk.alloc (w := w.drew) H.out _) hb2 (Blk.lt (Blk.alloc (w := w.drew) H.out _))); have q0 := Blk.cell hk 0; have q1 := Blk.cell hk 1; have q2 := Blk.frozen hk 0; have q3 := Blk.frozen hk 1; simp only [List.getElem?_toArray, List.getElem?_cons_zero, List.getElem?_cons_succ] at q0 q1)
    | (go_at_call 31; refine (HM.out _).mono ?_; rintro e w' ⟨rfl, hb2⟩; obtain ⟨k0, k1, k2, k3⟩ := AccAt.cells (show AccAt w' b A from Blk.below (w := w.drew) H.out hb2 (Blk.lt (w := w.drew) H.out))))
  all_goals
    go_wp2_with fail
    go_quiet (fail)
    go_wp2_with fail
    go_ret2
    refine ⟨rfl, below_drewN ?_ _⟩
    first
      | exact (((Below.refl _ _).drew.trans hb2).alloc (by have := hb2.size; simpa using this) _)
      | exact ((((Below.refl _ _).drew.alloc (Nat.le_refl _) _).trans (hb2.mono (by simp))).setCell (Nat.le_refl _) _).setCell (Nat.le_refl _) _
set_option maxHeartbeats 1000000 in
theorem fits_at (c : Int) : Calls Try.prog 18 #[.pointer (some ⟨b, 0, none⟩), .int .i64 c] w fun e w' => e = .returned (.bool (isCost c && decide (c ≤ A.bb))) ∧ Below w.heap.size w w' := by
  have hb0 := hA.b0
  have H := Lib.hid h
  obtain ⟨c0, c1, c2, c3⟩ := AccAt.cells (Blk.alloc h (.cells #[.int .i64 c] 3))
  cases hc : isCost c with
  | true =>
    have HC : Hid (∀ W, AccAt W b A → Calls Try.prog 30 #[.pointer (some ⟨b, 0, none⟩), .slice (some ⟨W.heap.size, 0, none⟩) 1 1] (W.alloc (.cells #[.int .i64 c] 3)) fun e w' => e = .returned (.int .i64 0) ∧ W.alloc (.cells #[.int .i64 c] 3) = w') := fun W hW => by
      have := check_one b A c W hW hb0
      rwa [hc] at this
    clear h hA hc
    go_enter Try.func18, Try.ntmps18
    go_wp2_with (go_at_call 30; refine (HC.out _ H.out).mono ?_; rintro e w' ⟨rfl, rfl⟩)
    go_ret
    exact ⟨by simp, (Below.refl _ _).alloc (Nat.le_refl _) _⟩
  | false =>
    have HC : Hid (∀ W, AccAt W b A → Calls Try.prog 30 #[.pointer (some ⟨b, 0, none⟩), .slice (some ⟨W.heap.size, 0, none⟩) 1 1] (W.alloc (.cells #[.int .i64 c] 3)) fun e w' => e = .returned (.int .i64 3) ∧ W.alloc (.cells #[.int .i64 c] 3) = w') := fun W hW => by
      have := check_one b A c W hW hb0
      rwa [hc] at this
    clear h hA hc
    go_enter Try.func18, Try.ntmps18
    go_wp2_with (go_at_call 30; refine (HC.out _ H.out).mono ?_; rintro e w' ⟨rfl, rfl⟩)
    go_ret
    exact ⟨by simp, (Below.refl _ _).alloc (Nat.le_refl _) _⟩
set_option maxHeartbeats 1000000 in
theorem copy_at : Calls Try.prog 25 #[.pointer (some ⟨b, 0, none⟩)] w fun e w' => e = .returned (.pointer (some ⟨w.heap.size, 0, none⟩)) ∧ AccAt w' w.heap.size A ∧ Below w.heap.size w w' := by
  have hb0 := hA.b0
  have H := Lib.hid h
  obtain ⟨c0, c1, c2, c3⟩ := h.cells
  have hbw := Blk.lt h
  clear h hA
  go_enter Try.func25, Try.ntmps25
  go_wp2_with (go_at_call 33; refine (zero_at b A _ H.out hb0).mono ?_; rintro e w' ⟨rfl, rfl⟩)
  go_ret
  exact ⟨rfl, Blk.new _ _ _, (Below.refl _ _).alloc (Nat.le_refl _) _⟩

set_option maxHeartbeats 1000000 in
theorem lawUsed_at (x y : Int) : Calls Try.prog 13 #[.pointer (some ⟨b, 0, none⟩), .int .i64 x, .int .i64 y] w fun e w' => e = .returned (.bool (A.ub == x && A.ue == y)) ∧ Below w.heap.size w w' := by
  have HC := Lib.hid (used_at b A w h hA)
  clear h hA
  go_enter Try.func13, Try.ntmps13
  go_wp2_with (go_at_call 16; refine HC.out.mono ?_; rintro e w' ⟨rfl, hb⟩)
  all_goals
    go_ret
    exact ⟨by simp [*], hb⟩
set_option maxHeartbeats 1000000 in
theorem lawBudget_at (x y : Int) : Calls Try.prog 27 #[.pointer (some ⟨b, 0, none⟩), .int .i64 x, .int .i64 y] w fun e w' => e = .returned (.bool (A.bb == x && A.be == y)) ∧ Below w.heap.size w w' := by
  have HC := Lib.hid (budget_at b A w h hA)
  clear h hA
  go_enter Try.func27, Try.ntmps27
  go_wp2_with (go_at_call 39; refine HC.out.mono ?_; rintro e w' ⟨rfl, hb⟩)
  all_goals
    go_ret
    exact ⟨by simp [*], hb⟩
set_option maxHeartbeats 1000000 in
theorem lawOver_at (x y : Int) : Calls Try.prog 14 #[.pointer (some ⟨b, 0, none⟩), .int .i64 x, .int .i64 y] w fun e w' => e = .returned (.bool (max 0 (A.ub - A.bb) == x && max 0 (A.ue - A.be) == y)) ∧ Below w.heap.size w w' := by
  have HC := Lib.hid (over_at b A w h hA)
  clear h hA
  go_enter Try.func14, Try.ntmps14
  go_wp2_with (go_at_call 32; refine HC.out.mono ?_; rintro e w' ⟨rfl, hb⟩)
  all_goals
    go_ret
    exact ⟨by simp [*], hb⟩
end

def encAc (A : Ac) : Value := .agg #[.int .i64 A.bb, .int .i64 A.be, .int .i64 A.ub, .int .i64 A.ue]

set_option maxHeartbeats 1000000 in
theorem ref_is (c : Int) (w : World) : Calls Try.prog 38 #[.int .i64 c] w fun e w' => e = .returned (.bool (isCost c)) ∧ w = w' := by
  have h : (c < 65 ∧ isCost c = false) ∨ (65 ≤ c ∧ 67000 < c ∧ isCost c = false) ∨ (65 ≤ c ∧ c ≤ 67000 ∧ isCost c = true) := by
    by_cases h1 : 65 ≤ c
    · by_cases h2 : c ≤ 67000
      · exact .inr (.inr ⟨h1, h2, (isCost_iff c).2 ⟨h1, h2⟩⟩)
      · exact .inr (.inl ⟨h1, by omega, (isCost_not c).2 (by omega)⟩)
    · exact .inl ⟨by omega, (isCost_not c).2 (by omega)⟩
  rcases h with ⟨h1, h⟩ | ⟨h1, h2, h⟩ | ⟨h1, h2, h⟩
  all_goals
    have H := Lib.hid h
    clear h
    go_enter Try.func38, Try.ntmps38
    go_wp2
    go_ret
    rw [H.out]
    exact ⟨by simp [*], rfl⟩
end Go.Proofs.Ytnfehdcinmgnjaa
