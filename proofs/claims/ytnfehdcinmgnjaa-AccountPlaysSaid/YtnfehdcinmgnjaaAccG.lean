/- nil and zero accounts; the law AccountNil. -/
import Derived.Test.YtnfehdcinmgnjaaAccF
namespace Go.Proofs.Ytnfehdcinmgnjaa
set_option linter.unusedVariables false
open Go.RowKit Go.Maps Go.Sort

/-- A nil account, or a zero one. -/
def ZeroAcc (w : World) (v : Value) : Prop := v = .pointer none ∨ ∃ b A, v = .pointer (some ⟨b, 0, none⟩) ∧ AccAt w b A ∧ A.bb = 0 ∧ A.be = 0
theorem ZeroAcc.below {w w' : World} {v : Value} (h : ZeroAcc w v) (hb : Below w.heap.size w w') : ZeroAcc w' v := by
  rcases h with h | ⟨b, A, h1, h2, h3, h4⟩
  · exact .inl h
  · exact .inr ⟨b, A, h1, Blk.below h2 hb (Blk.lt h2), h3, h4⟩
theorem ZeroAcc.alloc {w : World} {v : Value} (h : ZeroAcc w v) (o : Obj) : ZeroAcc (w.alloc o) v := h.below ((Below.refl _ _).alloc (Nat.le_refl _) o)

section
variable (v : Value) (w : World) (h : ZeroAcc w v)
include h
theorem zero_true : Calls Try.prog 33 #[v] w fun e w' => e = .returned (.bool true) ∧ w = w' := by
  rcases h with rfl | ⟨b, A, rfl, h2, h3, h4⟩
  · exact zero_nil w
  · exact zero_zero b A w h2 h3 h4
set_option maxHeartbeats 1000000 in
theorem z_check (s : Value) : Calls Try.prog 30 #[v, s] w fun e w' => e = .returned (.int .i64 1) ∧ Below w.heap.size w w' := by
  have H := Lib.hid h
  clear h
  go_enter Try.func30, Try.ntmps30
  go_wp2_with ((go_at_call 33; refine (zero_true _ _ (by first | exact H.out | exact H.out.alloc _)).mono ?_; rintro e w' ⟨rfl, rfl⟩))
  go_ret
  exact ⟨rfl, (by (repeat' (first | (with_reducible exact Below.refl _ _) | assumption | (with_reducible refine Below.setCell ?_ ?_ _) | (with_reducible refine Below.alloc ?_ ?_ _) | (with_reducible refine Below.drew ?_) | (with_reducible refine below_drewN ?_ _))); all_goals (first | assumption | omega | (simp; done) | (simp; omega)))⟩
set_option maxHeartbeats 1000000 in
theorem z_add (c : Int) : Calls Try.prog 12 #[v, .int .i64 c] w fun e w' => e = .returned (.int .i64 1) ∧ Below w.heap.size w w' := by
  have H := Lib.hid h
  clear h
  go_enter Try.func12, Try.ntmps12
  go_wp2_with ((go_at_call 30; refine (z_check _ _ (by first | exact H.out | exact H.out.alloc _) _).mono ?_; rintro e w1 ⟨rfl, b1⟩; (have b2 := below_new b1); clear b1))
  go_ret
  exact ⟨rfl, (by (repeat' (first | (with_reducible exact Below.refl _ _) | assumption | (with_reducible refine Below.setCell ?_ ?_ _) | (with_reducible refine Below.alloc ?_ ?_ _) | (with_reducible refine Below.drew ?_) | (with_reducible refine below_drewN ?_ _))); all_goals (first | assumption | omega | (simp; done) | (simp; omega)))⟩
set_option maxHeartbeats 1000000 in
theorem z_rem (c : Int) : Calls Try.prog 17 #[v, .int .i64 c] w fun e w' => e = .returned (.int .i64 1) ∧ Below w.heap.size w w' := by
  have H := Lib.hid h
  clear h
  go_enter Try.func17, Try.ntmps17
  go_wp2_with ((go_at_call 30; refine (z_check _ _ (by first | exact H.out | exact H.out.alloc _) _).mono ?_; rintro e w1 ⟨rfl, b1⟩; (have b2 := below_new b1); clear b1))
  go_ret
  exact ⟨rfl, (by (repeat' (first | (with_reducible exact Below.refl _ _) | assumption | (with_reducible refine Below.setCell ?_ ?_ _) | (with_reducible refine Below.alloc ?_ ?_ _) | (with_reducible refine Below.drew ?_) | (with_reducible refine below_drewN ?_ _))); all_goals (first | assumption | omega | (simp; done) | (simp; omega)))⟩
set_option maxHeartbeats 1000000 in
theorem z_chg (c d : Int) : Calls Try.prog 15 #[v, .int .i64 c, .int .i64 d] w fun e w' => e = .returned (.int .i64 1) ∧ Below w.heap.size w w' := by
  have H := Lib.hid h
  clear h
  go_enter Try.func15, Try.ntmps15
  go_wp2_with ((go_at_call 30; refine (z_check _ _ (by first | exact H.out | exact H.out.alloc _) _).mono ?_; rintro e w1 ⟨rfl, b1⟩; (have b2 := below_new b1); clear b1))
  go_ret
  exact ⟨rfl, (by (repeat' (first | (with_reducible exact Below.refl _ _) | assumption | (with_reducible refine Below.setCell ?_ ?_ _) | (with_reducible refine Below.alloc ?_ ?_ _) | (with_reducible refine Below.drew ?_) | (with_reducible refine below_drewN ?_ _))); all_goals (first | assumption | omega | (simp; done) | (simp; omega)))⟩
set_option maxHeartbeats 1000000 in
theorem z_fits (c : Int) : Calls Try.prog 18 #[v, .int .i64 c] w fun e w' => e = .returned (.bool false) ∧ Below w.heap.size w w' := by
  have H := Lib.hid h
  clear h
  go_enter Try.func18, Try.ntmps18
  go_wp2_with ((go_at_call 30; refine (z_check _ _ (by first | exact H.out | exact H.out.alloc _) _).mono ?_; rintro e w1 ⟨rfl, b1⟩; (have b2 := below_new b1); clear b1))
  go_ret
  exact ⟨rfl, (by (repeat' (first | (with_reducible exact Below.refl _ _) | assumption | (with_reducible refine Below.setCell ?_ ?_ _) | (with_reducible refine Below.alloc ?_ ?_ _) | (with_reducible refine Below.drew ?_) | (with_reducible refine below_drewN ?_ _))); all_goals (first | assumption | omega | (simp; done) | (simp; omega)))⟩
set_option maxHeartbeats 1000000 in
theorem z_used : Calls Try.prog 16 #[v] w fun e w' => e = .returned (.tuple #[.int .i64 0, .int .i64 0]) ∧ Below w.heap.size w w' := by
  have H := Lib.hid h
  clear h
  go_enter Try.func16, Try.ntmps16
  go_wp2_with ((go_at_call 33; refine (zero_true _ _ (by first | exact H.out | exact H.out.alloc _)).mono ?_; rintro e w' ⟨rfl, rfl⟩))
  go_ret2
  exact ⟨rfl, (by (repeat' (first | (with_reducible exact Below.refl _ _) | assumption | (with_reducible refine Below.setCell ?_ ?_ _) | (with_reducible refine Below.alloc ?_ ?_ _) | (with_reducible refine Below.drew ?_) | (with_reducible refine below_drewN ?_ _))); all_goals (first | assumption | omega | (simp; done) | (simp; omega)))⟩
set_option maxHeartbeats 1000000 in
theorem z_over : Calls Try.prog 32 #[v] w fun e w' => e = .returned (.tuple #[.int .i64 0, .int .i64 0]) ∧ Below w.heap.size w w' := by
  have H := Lib.hid h
  clear h
  go_enter Try.func32, Try.ntmps32
  go_wp2_with ((go_at_call 33; refine (zero_true _ _ (by first | exact H.out | exact H.out.alloc _)).mono ?_; rintro e w' ⟨rfl, rfl⟩))
  go_ret2
  exact ⟨rfl, (by (repeat' (first | (with_reducible exact Below.refl _ _) | assumption | (with_reducible refine Below.setCell ?_ ?_ _) | (with_reducible refine Below.alloc ?_ ?_ _) | (with_reducible refine Below.drew ?_) | (with_reducible refine below_drewN ?_ _))); all_goals (first | assumption | omega | (simp; done) | (simp; omega)))⟩
set_option maxHeartbeats 1000000 in
theorem z_budget : Calls Try.prog 39 #[v] w fun e w' => e = .returned (.tuple #[.int .i64 0, .int .i64 0]) ∧ Below w.heap.size w w' := by
  have H := Lib.hid h
  clear h
  go_enter Try.func39, Try.ntmps39
  go_wp2_with ((go_at_call 33; refine (zero_true _ _ (by first | exact H.out | exact H.out.alloc _)).mono ?_; rintro e w' ⟨rfl, rfl⟩))
  go_ret2
  exact ⟨rfl, (by (repeat' (first | (with_reducible exact Below.refl _ _) | assumption | (with_reducible refine Below.setCell ?_ ?_ _) | (with_reducible refine Below.alloc ?_ ?_ _) | (with_reducible refine Below.drew ?_) | (with_reducible refine below_drewN ?_ _))); all_goals (first | assumption | omega | (simp; done) | (simp; omega)))⟩
set_option maxHeartbeats 1000000 in
theorem z_copy : Calls Try.prog 25 #[v] w fun e w' => e = .returned (.pointer none) ∧ Below w.heap.size w w' := by
  have H := Lib.hid h
  clear h
  go_enter Try.func25, Try.ntmps25
  go_wp2_with ((go_at_call 33; refine (zero_true _ _ (by first | exact H.out | exact H.out.alloc _)).mono ?_; rintro e w' ⟨rfl, rfl⟩))
  go_ret
  exact ⟨rfl, (by (repeat' (first | (with_reducible exact Below.refl _ _) | assumption | (with_reducible refine Below.setCell ?_ ?_ _) | (with_reducible refine Below.alloc ?_ ?_ _) | (with_reducible refine Below.drew ?_) | (with_reducible refine below_drewN ?_ _))); all_goals (first | assumption | omega | (simp; done) | (simp; omega)))⟩
set_option maxHeartbeats 1000000 in
theorem z_lawUsed : Calls Try.prog 13 #[v, .int .i64 0, .int .i64 0] w fun e w' => e = .returned (.bool true) ∧ Below w.heap.size w w' := by
  have H := Lib.hid h
  clear h
  go_enter Try.func13, Try.ntmps13
  go_wp2_with ((go_at_call 16; refine (z_used _ _ H.out).mono ?_; rintro e w1 ⟨rfl, b1⟩))
  go_ret
  exact ⟨rfl, (by (repeat' (first | (with_reducible exact Below.refl _ _) | assumption | (with_reducible refine Below.setCell ?_ ?_ _) | (with_reducible refine Below.alloc ?_ ?_ _) | (with_reducible refine Below.drew ?_) | (with_reducible refine below_drewN ?_ _))); all_goals (first | assumption | omega | (simp; done) | (simp; omega)))⟩
set_option maxHeartbeats 1000000 in
theorem z_lawOver : Calls Try.prog 14 #[v, .int .i64 0, .int .i64 0] w fun e w' => e = .returned (.bool true) ∧ Below w.heap.size w w' := by
  have H := Lib.hid h
  clear h
  go_enter Try.func14, Try.ntmps14
  go_wp2_with ((go_at_call 32; refine (z_over _ _ H.out).mono ?_; rintro e w1 ⟨rfl, b1⟩))
  go_ret
  exact ⟨rfl, (by (repeat' (first | (with_reducible exact Below.refl _ _) | assumption | (with_reducible refine Below.setCell ?_ ?_ _) | (with_reducible refine Below.alloc ?_ ?_ _) | (with_reducible refine Below.drew ?_) | (with_reducible refine below_drewN ?_ _))); all_goals (first | assumption | omega | (simp; done) | (simp; omega)))⟩
set_option maxHeartbeats 1000000 in
theorem z_lawBudget : Calls Try.prog 27 #[v, .int .i64 0, .int .i64 0] w fun e w' => e = .returned (.bool true) ∧ Below w.heap.size w w' := by
  have H := Lib.hid h
  clear h
  go_enter Try.func27, Try.ntmps27
  go_wp2_with ((go_at_call 39; refine (z_budget _ _ H.out).mono ?_; rintro e w1 ⟨rfl, b1⟩))
  go_ret
  exact ⟨rfl, (by (repeat' (first | (with_reducible exact Below.refl _ _) | assumption | (with_reducible refine Below.setCell ?_ ?_ _) | (with_reducible refine Below.alloc ?_ ?_ _) | (with_reducible refine Below.drew ?_) | (with_reducible refine below_drewN ?_ _))); all_goals (first | assumption | omega | (simp; done) | (simp; omega)))⟩
end

/-- Where the walk of AccountNil stands: what was there before; the list of the two accounts; the zero one. -/
structure Sz (w wr : World) : Prop where
  bel : Below w.heap.size w wr
  lst : Blk wr (w.heap.size + 1) 30 #[.pointer none, .pointer (some ⟨w.heap.size, 0, none⟩)]
  z : AccAt wr w.heap.size ⟨0, 0, 0, 0⟩
theorem Sz.step {w wr w' : World} (s : Sz w wr) (hb : Below wr.heap.size wr w') : Sz w w' :=
  ⟨s.bel.trans (hb.mono s.bel.size), Blk.below s.lst hb (Blk.lt s.lst), Blk.below s.z hb (Blk.lt s.z)⟩
theorem Sz.z0 {w wr : World} (s : Sz w wr) : ZeroAcc wr (.pointer none) := .inl rfl
theorem Sz.z1 {w wr : World} (s : Sz w wr) : ZeroAcc wr (.pointer (some ⟨w.heap.size, 0, none⟩)) := .inr ⟨_, _, rfl, s.z, rfl, rfl⟩

set_option maxHeartbeats 4000000 in
set_option maxRecDepth 100000 in
theorem nil_walk (x y : Int) (hx : -9223372036854775808 ≤ x ∧ x ≤ 9223372036854775807) (hy : -9223372036854775808 ≤ y ∧ y ≤ 9223372036854775807) (w : World) :
    Calls Try.prog 7 #[.int .i64 x, .int .i64 y] w fun e w' => e = .returned (.bool true) ∧ Below w.heap.size w w' := by
  clear hx hy
  go_enter Try.func7, Try.ntmps7
  go_wp2
  go_loopw [13] (fun i wr => ∃ k : Nat, k ≤ 2 ∧ i = .int .i64 k ∧ Sz w wr) (fun i _ => 2 - (intOf i).toNat)
  case atStart => exact ⟨0, by omega, rfl, ((Below.refl _ _).alloc (Nat.le_refl _) _).alloc (by simp) _, by simpa using Blk.new (w.alloc _) 30 #[.pointer none, .pointer (some ⟨w.heap.size, 0, none⟩)], Blk.alloc (Blk.new w _ _) _⟩
  case round =>
    obtain ⟨k, hk, rfl, s0⟩ := hrel
    have h3 : k = 0 ∨ k = 1 ∨ k = 2 := by omega
    have hc0 := Blk.cell s0.lst 0
    have hc1 := Blk.cell s0.lst 1
    simp only [List.getElem?_toArray, List.getElem?_cons_zero, List.getElem?_cons_succ] at hc0 hc1
    clear hk
    rcases h3 with rfl | rfl | rfl
    · clear hc1
      go_wp2_with fail
      refine (z_add _ _ s0.z0 x).mono ?_
      rintro e v1 ⟨rfl, b1⟩
      have s1 := s0.step b1
      clear b1 s0
      go_wp2_with fail
      refine (z_rem _ _ s1.z0 x).mono ?_
      rintro e v2 ⟨rfl, b1⟩
      have s2 := s1.step b1
      clear b1 s1
      go_wp2_with fail
      refine (z_chg _ _ s2.z0 x y).mono ?_
      rintro e v3 ⟨rfl, b1⟩
      have s3 := s2.step b1
      clear b1 s2
      go_wp2_with fail
      refine (z_fits _ _ s3.z0 x).mono ?_
      rintro e v4 ⟨rfl, b1⟩
      have s4 := s3.step b1
      clear b1 s3
      go_wp2_with fail
      refine (z_lawUsed _ _ s4.z0).mono ?_
      rintro e v5 ⟨rfl, b1⟩
      have s5 := s4.step b1
      clear b1 s4
      go_wp2_with fail
      refine (z_lawOver _ _ s5.z0).mono ?_
      rintro e v6 ⟨rfl, b1⟩
      have s6 := s5.step b1
      clear b1 s5
      go_wp2_with fail
      refine (z_lawBudget _ _ s6.z0).mono ?_
      rintro e v7 ⟨rfl, b1⟩
      have s7 := s6.step b1
      clear b1 s6
      go_wp2_with fail
      refine (z_copy _ _ s7.z0).mono ?_
      rintro e v8 ⟨rfl, b1⟩
      have s8 := s7.step b1
      clear b1 s7
      go_wp2_with fail
      go_roundw
      case rel => exact ⟨1, by omega, rfl, s8⟩
      case measure => simp [intOf]
    · clear hc0
      go_wp2_with fail
      refine (z_add _ _ s0.z1 x).mono ?_
      rintro e v1 ⟨rfl, b1⟩
      have s1 := s0.step b1
      clear b1 s0
      go_wp2_with fail
      refine (z_rem _ _ s1.z1 x).mono ?_
      rintro e v2 ⟨rfl, b1⟩
      have s2 := s1.step b1
      clear b1 s1
      go_wp2_with fail
      refine (z_chg _ _ s2.z1 x y).mono ?_
      rintro e v3 ⟨rfl, b1⟩
      have s3 := s2.step b1
      clear b1 s2
      go_wp2_with fail
      refine (z_fits _ _ s3.z1 x).mono ?_
      rintro e v4 ⟨rfl, b1⟩
      have s4 := s3.step b1
      clear b1 s3
      go_wp2_with fail
      refine (z_lawUsed _ _ s4.z1).mono ?_
      rintro e v5 ⟨rfl, b1⟩
      have s5 := s4.step b1
      clear b1 s4
      go_wp2_with fail
      refine (z_lawOver _ _ s5.z1).mono ?_
      rintro e v6 ⟨rfl, b1⟩
      have s6 := s5.step b1
      clear b1 s5
      go_wp2_with fail
      refine (z_lawBudget _ _ s6.z1).mono ?_
      rintro e v7 ⟨rfl, b1⟩
      have s7 := s6.step b1
      clear b1 s6
      go_wp2_with fail
      refine (z_copy _ _ s7.z1).mono ?_
      rintro e v8 ⟨rfl, b1⟩
      have s8 := s7.step b1
      clear b1 s7
      go_wp2_with fail
      go_roundw
      case rel => exact ⟨2, by omega, rfl, s8⟩
      case measure => simp [intOf]
    · clear hc0 hc1
      go_wp2_with fail
      refine (known_any _).mono ?_
      rintro e v1 ⟨rfl, b1⟩
      have s1 := s0.step b1
      clear b1 s0
      go_wp2_with fail
      go_ret
      exact ⟨rfl, s1.bel⟩
end Go.Proofs.Ytnfehdcinmgnjaa
