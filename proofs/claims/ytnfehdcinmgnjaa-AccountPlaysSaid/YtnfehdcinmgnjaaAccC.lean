/- Contracts of the reference's methods. -/
import Derived.Test.YtnfehdcinmgnjaaAccB
import Derived.IntWalk
namespace Go.Proofs.Ytnfehdcinmgnjaa
set_option linter.unusedVariables false
open Go.RowKit

section
variable (A : Ac) (c : Int) (w : World)
set_option maxHeartbeats 1000000 in
theorem refAdd_any (hA : AcOk A) :
    Calls Try.prog 21 #[encAc A, .int .i64 c] w fun e w' => e = .returned (.tuple #[encAc (acAdd A c).1, .int .i64 (acAdd A c).2]) ∧ Below w.heap.size w w' := by
  unfold encAc
  obtain ⟨hb0, hb1, he0, he1, hu0, hu1, hs0, hs1⟩ := hA
  cases hc : isCost c with
  | false =>
    have HE := Lib.hid (acAdd_bad (A := A) hc)
    have HI : Hid (∀ w, Calls Try.prog 38 #[.int .i64 c] w fun e w' => e = .returned (.bool false) ∧ w = w') := fun w => by have := ref_is c w; rwa [hc] at this
    clear hc
    go_enter Try.func21, Try.ntmps21
    go_wp2_with (go_at_call 38; refine (HI.out _).mono ?_; rintro e w' ⟨rfl, rfl⟩)
    refine bodyPost_ret (v := .tuple #[.agg #[.int .i64 (A.bb), .int .i64 (A.be), .int .i64 (A.ub), .int .i64 (A.ue)], .int .i64 3]) (by simp [results, Try.results21, go_sem]) rfl ⟨by rw [HE.out] <;> rfl, (by (repeat' (first | (with_reducible exact Below.refl _ _) | (with_reducible refine Below.setCell ?_ ?_ _) | (with_reducible refine Below.alloc ?_ ?_ _) | (with_reducible refine Below.drew ?_) | (with_reducible refine below_drewN ?_ _))); all_goals (first | assumption | omega | (simp; done) | (simp; omega)))⟩
  | true =>
    have h3 := (isCost_iff c).1 hc
    obtain ⟨h3, h4⟩ := h3
    have HI : Hid (∀ w, Calls Try.prog 38 #[.int .i64 c] w fun e w' => e = .returned (.bool true) ∧ w = w') := fun w => by have := ref_is c w; rwa [hc] at this
    rcases Int.lt_or_le A.ue 2097152 with h2 | h2
    · have HE := Lib.hid (acAdd_ok hc h2)
      clear hc
      go_enter Try.func21, Try.ntmps21
      go_wp2_with (go_at_call 38; refine (HI.out _).mono ?_; rintro e w' ⟨rfl, rfl⟩)
      refine bodyPost_ret (v := .tuple #[.agg #[.int .i64 (A.bb), .int .i64 (A.be), .int .i64 (A.ub + c), .int .i64 (A.ue + 1)], .int .i64 0]) (by simp [results, Try.results21, go_sem]) rfl ⟨by rw [HE.out] <;> rfl, (by (repeat' (first | (with_reducible exact Below.refl _ _) | (with_reducible refine Below.setCell ?_ ?_ _) | (with_reducible refine Below.alloc ?_ ?_ _) | (with_reducible refine Below.drew ?_) | (with_reducible refine below_drewN ?_ _))); all_goals (first | assumption | omega | (simp; done) | (simp; omega)))⟩
    · have HE := Lib.hid (acAdd_full hc h2)
      clear hc
      go_enter Try.func21, Try.ntmps21
      go_wp2_with (go_at_call 38; refine (HI.out _).mono ?_; rintro e w' ⟨rfl, rfl⟩)
      refine bodyPost_ret (v := .tuple #[.agg #[.int .i64 (A.bb), .int .i64 (A.be), .int .i64 (A.ub), .int .i64 (A.ue)], .int .i64 7]) (by simp [results, Try.results21, go_sem]) rfl ⟨by rw [HE.out] <;> rfl, (by (repeat' (first | (with_reducible exact Below.refl _ _) | (with_reducible refine Below.setCell ?_ ?_ _) | (with_reducible refine Below.alloc ?_ ?_ _) | (with_reducible refine Below.drew ?_) | (with_reducible refine below_drewN ?_ _))); all_goals (first | assumption | omega | (simp; done) | (simp; omega)))⟩
set_option maxHeartbeats 1000000 in
theorem refRem_any (hA : AcOk A) :
    Calls Try.prog 22 #[encAc A, .int .i64 c] w fun e w' => e = .returned (.tuple #[encAc (acRem A c).1, .int .i64 (acRem A c).2]) ∧ Below w.heap.size w w' := by
  unfold encAc
  obtain ⟨hb0, hb1, he0, he1, hu0, hu1, hs0, hs1⟩ := hA
  cases hc : isCost c with
  | false =>
    have HE := Lib.hid (acRem_bad (A := A) hc)
    have HI : Hid (∀ w, Calls Try.prog 38 #[.int .i64 c] w fun e w' => e = .returned (.bool false) ∧ w = w') := fun w => by have := ref_is c w; rwa [hc] at this
    clear hc
    go_enter Try.func22, Try.ntmps22
    go_wp2_with (go_at_call 38; refine (HI.out _).mono ?_; rintro e w' ⟨rfl, rfl⟩)
    refine bodyPost_ret (v := .tuple #[.agg #[.int .i64 (A.bb), .int .i64 (A.be), .int .i64 (A.ub), .int .i64 (A.ue)], .int .i64 3]) (by simp [results, Try.results22, go_sem]) rfl ⟨by rw [HE.out] <;> rfl, (by (repeat' (first | (with_reducible exact Below.refl _ _) | (with_reducible refine Below.setCell ?_ ?_ _) | (with_reducible refine Below.alloc ?_ ?_ _) | (with_reducible refine Below.drew ?_) | (with_reducible refine below_drewN ?_ _))); all_goals (first | assumption | omega | (simp; done) | (simp; omega)))⟩
  | true =>
    have h3 := (isCost_iff c).1 hc
    obtain ⟨h3, h4⟩ := h3
    have HI : Hid (∀ w, Calls Try.prog 38 #[.int .i64 c] w fun e w' => e = .returned (.bool true) ∧ w = w') := fun w => by have := ref_is c w; rwa [hc] at this
    cases hf : fitsIn (A.ub - c) (A.ue - 1) with
    | true =>
      have h5 : 0 ≤ A.ue - 1 ∧ 65 * (A.ue - 1) ≤ A.ub - c ∧ A.ub - c ≤ 67000 * (A.ue - 1) := by simpa [fitsIn] using hf
      obtain ⟨h5, h6, h7⟩ := h5
      have HE := Lib.hid (acRem_ok hc hf)
      clear hc hf
      have q1 : IntKind.i64.wrap (A.ub - c) = A.ub - c := IntWalk.i64_in _ (by omega)
      have q2 : IntKind.i64.wrap (A.ue - 1) = A.ue - 1 := IntWalk.i64_in _ (by omega)
      go_enter Try.func22, Try.ntmps22
      go_wp2_with (go_at_call 38; refine (HI.out _).mono ?_; rintro e w' ⟨rfl, rfl⟩)
      go_quiet (fail)
      clear q1 q2
      go_wp2_with fail
      refine bodyPost_ret (v := .tuple #[.agg #[.int .i64 (A.bb), .int .i64 (A.be), .int .i64 (A.ub - c), .int .i64 (A.ue - 1)], .int .i64 0]) (by simp [results, Try.results22, go_sem]) rfl ⟨by rw [HE.out] <;> rfl, (by (repeat' (first | (with_reducible exact Below.refl _ _) | (with_reducible refine Below.setCell ?_ ?_ _) | (with_reducible refine Below.alloc ?_ ?_ _) | (with_reducible refine Below.drew ?_) | (with_reducible refine below_drewN ?_ _))); all_goals (first | assumption | omega | (simp; done) | (simp; omega)))⟩
    | false =>
      have h5 : A.ue - 1 < 0 ∨ (0 ≤ A.ue - 1 ∧ A.ub - c < 65 * (A.ue - 1)) ∨ (0 ≤ A.ue - 1 ∧ 65 * (A.ue - 1) ≤ A.ub - c ∧ 67000 * (A.ue - 1) < A.ub - c) := by
        have : ¬ (0 ≤ A.ue - 1 ∧ 65 * (A.ue - 1) ≤ A.ub - c ∧ A.ub - c ≤ 67000 * (A.ue - 1)) := fun h => by
          have : fitsIn (A.ub - c) (A.ue - 1) = true := by simpa [fitsIn] using h
          rw [hf] at this; cases this
        omega
      have HE := Lib.hid (acRem_none hc hf)
      clear hc hf
      rcases h5 with h5 | ⟨h5, h6⟩ | ⟨h5, h6, h7⟩
      all_goals
        have q1 : IntKind.i64.wrap (A.ub - c) = A.ub - c := IntWalk.i64_in _ (by omega)
        have q2 : IntKind.i64.wrap (A.ue - 1) = A.ue - 1 := IntWalk.i64_in _ (by omega)
        go_enter Try.func22, Try.ntmps22
        go_wp2_with (go_at_call 38; refine (HI.out _).mono ?_; rintro e w' ⟨rfl, rfl⟩)
        go_quiet (fail)
        clear q1 q2
        go_wp2_with fail
        refine bodyPost_ret (v := .tuple #[.agg #[.int .i64 (A.bb), .int .i64 (A.be), .int .i64 (A.ub), .int .i64 (A.ue)], .int .i64 9]) (by simp [results, Try.results22, go_sem]) rfl ⟨by rw [HE.out] <;> rfl, (by (repeat' (first | (with_reducible exact Below.refl _ _) | (with_reducible refine Below.setCell ?_ ?_ _) | (with_reducible refine Below.alloc ?_ ?_ _) | (with_reducible refine Below.drew ?_) | (with_reducible refine below_drewN ?_ _))); all_goals (first | assumption | omega | (simp; done) | (simp; omega)))⟩
set_option maxHeartbeats 1000000 in
theorem refFits_any :
    Calls Try.prog 24 #[encAc A, .int .i64 c] w fun e w' => e = .returned (.bool (isCost c && decide (c ≤ A.bb))) ∧ Below w.heap.size w w' := by
  unfold encAc
  cases hc : isCost c with
  | false =>
    have HI : Hid (∀ w, Calls Try.prog 38 #[.int .i64 c] w fun e w' => e = .returned (.bool false) ∧ w = w') := fun w => by have := ref_is c w; rwa [hc] at this
    clear hc
    go_enter Try.func24, Try.ntmps24
    go_wp2_with (go_at_call 38; refine (HI.out _).mono ?_; rintro e w' ⟨rfl, rfl⟩)
    go_ret
    exact ⟨by simp, (by (repeat' (first | (with_reducible exact Below.refl _ _) | (with_reducible refine Below.setCell ?_ ?_ _) | (with_reducible refine Below.alloc ?_ ?_ _) | (with_reducible refine Below.drew ?_) | (with_reducible refine below_drewN ?_ _))); all_goals (first | assumption | omega | (simp; done) | (simp; omega)))⟩
  | true =>
    have HI : Hid (∀ w, Calls Try.prog 38 #[.int .i64 c] w fun e w' => e = .returned (.bool true) ∧ w = w') := fun w => by have := ref_is c w; rwa [hc] at this
    clear hc
    go_enter Try.func24, Try.ntmps24
    go_wp2_with (go_at_call 38; refine (HI.out _).mono ?_; rintro e w' ⟨rfl, rfl⟩)
    go_ret
    exact ⟨by simp, (by (repeat' (first | (with_reducible exact Below.refl _ _) | (with_reducible refine Below.setCell ?_ ?_ _) | (with_reducible refine Below.alloc ?_ ?_ _) | (with_reducible refine Below.drew ?_) | (with_reducible refine below_drewN ?_ _))); all_goals (first | assumption | omega | (simp; done) | (simp; omega)))⟩
set_option maxHeartbeats 1000000 in
theorem refOver_any (hA : AcOk A) :
    Calls Try.prog 26 #[encAc A] w fun e w' => e = .returned (.tuple #[.int .i64 (max 0 (A.ub - A.bb)), .int .i64 (max 0 (A.ue - A.be))]) ∧ Below w.heap.size w w' := by
  unfold encAc
  obtain ⟨hb0, hb1, he0, he1, hu0, hu1, hs0, hs1⟩ := hA
  have q1 : IntKind.i64.wrap (A.ub - A.bb) = A.ub - A.bb := IntWalk.i64_in _ (by omega)
  have q2 : IntKind.i64.wrap (A.ue - A.be) = A.ue - A.be := IntWalk.i64_in _ (by omega)
  go_enter Try.func26, Try.ntmps26
  go_wp2_with fail
  go_quiet (fail)
  clear q1 q2
  go_wp2_with fail
  go_ret2
  exact ⟨rfl, (by (repeat' (first | (with_reducible exact Below.refl _ _) | (with_reducible refine Below.setCell ?_ ?_ _) | (with_reducible refine Below.alloc ?_ ?_ _) | (with_reducible refine Below.drew ?_) | (with_reducible refine below_drewN ?_ _))); all_goals (first | assumption | omega | (simp; done) | (simp; omega)))⟩
set_option maxHeartbeats 1000000 in
theorem refChg_any (d : Int) (hA : AcOk A) :
    Calls Try.prog 23 #[encAc A, .int .i64 c, .int .i64 d] w fun e w' => e = .returned (.tuple #[encAc (acChg A c d).1, .int .i64 (acChg A c d).2]) ∧ Below w.heap.size w w' := by
  have HK := Lib.hid hA
  have HK2 := Lib.hid (acRem_AcOk c hA)
  cases hc : isCost c with
  | false =>
    have HE : Hid (acChg A c d = (A, 3)) := by show acChg A c d = _; simp [acChg, hc]
    have HI : Hid (∀ w, Calls Try.prog 38 #[.int .i64 c] w fun e w' => e = .returned (.bool false) ∧ w = w') := fun w => by have := ref_is c w; rwa [hc] at this
    unfold encAc
    clear hc hA
    go_enter Try.func23, Try.ntmps23
    go_wp2_with (go_at_call 38; refine (HI.out _).mono ?_; rintro e w' ⟨rfl, rfl⟩)
    refine bodyPost_ret (v := .tuple #[.agg #[.int .i64 (A.bb), .int .i64 (A.be), .int .i64 (A.ub), .int .i64 (A.ue)], .int .i64 3]) (by simp [results, Try.results23, go_sem]) rfl ⟨by rw [HE.out] <;> rfl, (by (repeat' (first | (with_reducible exact Below.refl _ _) | (with_reducible refine Below.setCell ?_ ?_ _) | (with_reducible refine Below.alloc ?_ ?_ _) | (with_reducible refine Below.drew ?_) | (with_reducible refine below_drewN ?_ _))); all_goals (first | assumption | omega | (simp; done) | (simp; omega)))⟩
  | true =>
    have HI : Hid (∀ w, Calls Try.prog 38 #[.int .i64 c] w fun e w' => e = .returned (.bool true) ∧ w = w') := fun w => by have := ref_is c w; rwa [hc] at this
    cases hd : isCost d with
    | false =>
      have HE : Hid (acChg A c d = (A, 3)) := by show acChg A c d = _; simp [acChg, hc, hd]
      have HJ : Hid (∀ w, Calls Try.prog 38 #[.int .i64 d] w fun e w' => e = .returned (.bool false) ∧ w = w') := fun w => by have := ref_is d w; rwa [hd] at this
      unfold encAc
      clear hc hd hA
      go_enter Try.func23, Try.ntmps23
      go_wp2_with (first | (go_at_call_of 38 (Value.int IntKind.i64 c); (with_reducible refine (HI.out _).mono ?_); rintro e w' ⟨rfl, rfl⟩) | (go_at_call 38; (with_reducible refine (HJ.out _).mono ?_); rintro e w' ⟨rfl, rfl⟩))
      refine bodyPost_ret (v := .tuple #[.agg #[.int .i64 (A.bb), .int .i64 (A.be), .int .i64 (A.ub), .int .i64 (A.ue)], .int .i64 3]) (by simp [results, Try.results23, go_sem]) rfl ⟨by rw [HE.out] <;> rfl, (by (repeat' (first | (with_reducible exact Below.refl _ _) | (with_reducible refine Below.setCell ?_ ?_ _) | (with_reducible refine Below.alloc ?_ ?_ _) | (with_reducible refine Below.drew ?_) | (with_reducible refine below_drewN ?_ _))); all_goals (first | assumption | omega | (simp; done) | (simp; omega)))⟩
    | true =>
      have HJ : Hid (∀ w, Calls Try.prog 38 #[.int .i64 d] w fun e w' => e = .returned (.bool true) ∧ w = w') := fun w => by have := ref_is d w; rwa [hd] at this
      cases hr : (acRem A c).2 == 0 with
      | true =>
        have hr2 : (acRem A c).2 = 0 := by simpa using hr
        have HE : Hid (acChg A c d = acAdd (acRem A c).1 d) := by show acChg A c d = _; simp [acChg, hc, hd, hr2]
        have HR : Hid (∀ W, Calls Try.prog 22 #[.agg #[.int .i64 (A.bb), .int .i64 (A.be), .int .i64 (A.ub), .int .i64 (A.ue)], .int .i64 c] W fun e w' => e = .returned (.tuple #[.agg #[.int .i64 ((acRem A c).1.bb), .int .i64 ((acRem A c).1.be), .int .i64 ((acRem A c).1.ub), .int .i64 ((acRem A c).1.ue)], .int .i64 0]) ∧ Below W.heap.size W w') := fun W => by
          have := refRem_any A c W HK.out
          rwa [hr2] at this
        obtain ⟨B, hB⟩ : ∃ B, (acRem A c).1 = B := ⟨_, rfl⟩
        rw [hB] at HR HK2 HE
        have HAd : Hid (∀ W, Calls Try.prog 21 #[.agg #[.int .i64 (B.bb), .int .i64 (B.be), .int .i64 (B.ub), .int .i64 (B.ue)], .int .i64 d] W fun e w' => e = .returned (.tuple #[.agg #[.int .i64 ((acAdd B d).1.bb), .int .i64 ((acAdd B d).1.be), .int .i64 ((acAdd B d).1.ub), .int .i64 ((acAdd B d).1.ue)], .int .i64 (acAdd B d).2]) ∧ Below W.heap.size W w') := fun W => refAdd_any B d W HK2.out
        unfold encAc
        clear hc hd hr hr2 hA hB
        go_enter Try.func23, Try.ntmps23
        go_wp2_with (first | (go_at_call_of 38 (Value.int IntKind.i64 c); (with_reducible refine (HI.out _).mono ?_); rintro e w' ⟨rfl, rfl⟩) | (go_at_call 38; (with_reducible refine (HJ.out _).mono ?_); rintro e w' ⟨rfl, rfl⟩))
        refine (HR.out _).mono ?_
        rintro e w1 ⟨rfl, b1⟩
        have b2 := Below.trans (((Below.refl w.heap.size w).alloc (Nat.le_refl _) (.cells #[.int .i64 A.bb, .int .i64 A.be, .int .i64 A.ub, .int .i64 A.ue] 45)).alloc (by simp) (.cells #[.int .i64 0, .int .i64 0, .int .i64 0, .int .i64 0] 45)) (b1.mono (by simp <;> omega))
        have hk : Blk w1 (w.heap.size + 1) 45 #[.int .i64 0, .int .i64 0, .int .i64 0, .int .i64 0] := by
          have h1 := Blk.new (w.alloc (.cells #[.int .i64 A.bb, .int .i64 A.be, .int .i64 A.ub, .int .i64 A.ue] 45)) 45 #[.int .i64 0, .int .i64 0, .int .i64 0, .int .i64 0]
          have h2 := Blk.below h1 b1 (Blk.lt h1)
          simpa using h2
        have hk0 : Blk w1 w.heap.size 45 #[.int .i64 A.bb, .int .i64 A.be, .int .i64 A.ub, .int .i64 A.ue] := by
          have h1 := Blk.alloc (Blk.new w 45 #[.int .i64 A.bb, .int .i64 A.be, .int .i64 A.ub, .int .i64 A.ue]) (.cells #[.int .i64 0, .int .i64 0, .int .i64 0, .int .i64 0] 45)
          exact Blk.below h1 b1 (Blk.lt h1)
        clear b1
        go_wp2_with fail
        refine (HAd.out _).mono ?_
        rintro e w2 ⟨rfl, b3⟩
        have hk2 := Blk.below (Blk.alloc hk (.cells #[.int .i64 B.bb, .int .i64 B.be, .int .i64 B.ub, .int .i64 B.ue] 45)) b3 (Blk.lt (Blk.alloc hk _))
        have b4 : Below w.heap.size w w2 := (b2.alloc b2.size (.cells #[.int .i64 B.bb, .int .i64 B.be, .int .i64 B.ub, .int .i64 B.ue] 45)).trans (b3.mono (by have := b2.size; simp; omega))
        clear b3 b2 hk hk0
        have c0 := Blk.cell hk2 0
        have cf0 := Blk.frozen hk2 0
        have c1 := Blk.cell hk2 1
        have cf1 := Blk.frozen hk2 1
        have c2 := Blk.cell hk2 2
        have cf2 := Blk.frozen hk2 2
        have c3 := Blk.cell hk2 3
        have cf3 := Blk.frozen hk2 3
        simp only [List.getElem?_toArray, List.getElem?_cons_zero, List.getElem?_cons_succ] at c0 c1 c2 c3
        go_wp2_with fail
        refine bodyPost_ret (v := .tuple #[.agg #[.int .i64 (acAdd B d).1.bb, .int .i64 (acAdd B d).1.be, .int .i64 (acAdd B d).1.ub, .int .i64 (acAdd B d).1.ue], .int .i64 (acAdd B d).2]) (by simp [results, Try.results23, go_sem, c0, c1, c2, c3]) rfl ⟨by rw [HE.out] <;> rfl, (by (repeat' (first | (with_reducible exact Below.refl _ _) | assumption | (with_reducible refine Below.setCell ?_ ?_ _) | (with_reducible refine Below.alloc ?_ ?_ _) | (with_reducible refine Below.drew ?_) | (with_reducible refine below_drewN ?_ _))); all_goals (first | assumption | omega | (simp; done) | (simp; omega)))⟩
      | false =>
        have hr2 : ¬ (acRem A c).2 = 0 := by simpa using hr
        have HE : Hid (acChg A c d = ((acRem A c).1, (acRem A c).2)) := by show acChg A c d = _; simp [acChg, hc, hd, hr2]
        obtain ⟨er, her⟩ : ∃ er, (acRem A c).2 = er := ⟨_, rfl⟩
        obtain ⟨B, hB⟩ : ∃ B, (acRem A c).1 = B := ⟨_, rfl⟩
        have hAB : B = A := by
          rw [← hB]
          unfold acRem at hr2 ⊢
          split at hr2
          · split at hr2
            · exact absurd rfl hr2
            · rename_i h1 h2; rw [if_pos h1, if_neg h2]
          · rename_i h1; rw [if_neg h1]
        have HR : Hid (∀ W, Calls Try.prog 22 #[.agg #[.int .i64 A.bb, .int .i64 A.be, .int .i64 A.ub, .int .i64 A.ue], .int .i64 c] W fun e w' => e = .returned (.tuple #[.agg #[.int .i64 B.bb, .int .i64 B.be, .int .i64 B.ub, .int .i64 B.ue], .int .i64 er]) ∧ Below W.heap.size W w') := fun W => by
          have := refRem_any A c W HK.out
          rwa [hB, her] at this
        rw [hB, her, hAB] at HE
        rw [her] at hr hr2
        have hr3 : (er != 0) = true := by simpa using hr2
        unfold encAc
        clear hc hd hr2 hA hB hAB her
        go_enter Try.func23, Try.ntmps23
        go_wp2_with (first | (go_at_call_of 38 (Value.int IntKind.i64 c); (with_reducible refine (HI.out _).mono ?_); rintro e w' ⟨rfl, rfl⟩) | (go_at_call 38; (with_reducible refine (HJ.out _).mono ?_); rintro e w' ⟨rfl, rfl⟩))
        refine (HR.out _).mono ?_
        rintro e w1 ⟨rfl, b1⟩
        have b2 := Below.trans (((Below.refl w.heap.size w).alloc (Nat.le_refl _) (.cells #[.int .i64 A.bb, .int .i64 A.be, .int .i64 A.ub, .int .i64 A.ue] 45)).alloc (by simp) (.cells #[.int .i64 0, .int .i64 0, .int .i64 0, .int .i64 0] 45)) (b1.mono (by simp <;> omega))
        have hk : Blk w1 (w.heap.size + 1) 45 #[.int .i64 0, .int .i64 0, .int .i64 0, .int .i64 0] := by
          have h1 := Blk.new (w.alloc (.cells #[.int .i64 A.bb, .int .i64 A.be, .int .i64 A.ub, .int .i64 A.ue] 45)) 45 #[.int .i64 0, .int .i64 0, .int .i64 0, .int .i64 0]
          have h2 := Blk.below h1 b1 (Blk.lt h1)
          simpa using h2
        have hk0 : Blk w1 w.heap.size 45 #[.int .i64 A.bb, .int .i64 A.be, .int .i64 A.ub, .int .i64 A.ue] := by
          have h1 := Blk.alloc (Blk.new w 45 #[.int .i64 A.bb, .int .i64 A.be, .int .i64 A.ub, .int .i64 A.ue]) (.cells #[.int .i64 0, .int .i64 0, .int .i64 0, .int .i64 0] 45)
          exact Blk.below h1 b1 (Blk.lt h1)
        clear b1
        have hz := Blk.lt hk
        have hz0 := Blk.lt hk0
        have c0 := Blk.cell hk 0
        have cf0 := Blk.frozen hk 0
        have c1 := Blk.cell hk 1
        have cf1 := Blk.frozen hk 1
        have c2 := Blk.cell hk 2
        have cf2 := Blk.frozen hk 2
        have c3 := Blk.cell hk 3
        have cf3 := Blk.frozen hk 3
        simp only [List.getElem?_toArray, List.getElem?_cons_zero, List.getElem?_cons_succ] at c0 c1 c2 c3
        have d0 := Blk.cell hk0 0
        have df0 := Blk.frozen hk0 0
        have d1 := Blk.cell hk0 1
        have df1 := Blk.frozen hk0 1
        have d2 := Blk.cell hk0 2
        have df2 := Blk.frozen hk0 2
        have d3 := Blk.cell hk0 3
        have df3 := Blk.frozen hk0 3
        simp only [List.getElem?_toArray, List.getElem?_cons_zero, List.getElem?_cons_succ] at d0 d1 d2 d3
        go_wp2_with fail
        refine bodyPost_ret (v := .tuple #[.agg #[.int .i64 A.bb, .int .i64 A.be, .int .i64 A.ub, .int .i64 A.ue], .int .i64 er]) (by simp [results, Try.results23, go_sem, c0, c1, c2, c3, hz]) rfl ⟨by rw [HE.out] <;> rfl, (by (repeat' (first | (with_reducible exact Below.refl _ _) | assumption | (with_reducible refine Below.setCell ?_ ?_ _) | (with_reducible refine Below.alloc ?_ ?_ _) | (with_reducible refine Below.drew ?_) | (with_reducible refine below_drewN ?_ _))); all_goals (first | assumption | omega | (simp; done) | (simp; omega)))⟩
end
set_option maxHeartbeats 1000000 in
theorem refNew_yes (x y : Int) (h1 : 1 ≤ x) (h2 : x ≤ 1099511627776) (h3 : 1 ≤ y) (h4 : y ≤ 1048576) (w : World) :
    Calls Try.prog 20 #[.int .i64 x, .int .i64 y] w fun e w' => e = .returned (.tuple #[.agg #[.int .i64 x, .int .i64 y, .int .i64 0, .int .i64 0], .int .i64 0]) ∧ Below w.heap.size w w' := by
  go_enter Try.func20, Try.ntmps20
  go_wp2
  refine bodyPost_ret (v := .tuple #[.agg #[.int .i64 x, .int .i64 y, .int .i64 0, .int .i64 0], .int .i64 0]) (by simp [results, Try.results20, go_sem]) rfl ⟨rfl, (by (repeat' (first | (with_reducible exact Below.refl _ _) | assumption | (with_reducible refine Below.setCell ?_ ?_ _) | (with_reducible refine Below.alloc ?_ ?_ _) | (with_reducible refine Below.drew ?_) | (with_reducible refine below_drewN ?_ _))); all_goals (first | assumption | omega | (simp; done) | (simp; omega)))⟩
set_option maxHeartbeats 1000000 in
theorem refNew_no (x y : Int) (h : newOk x y = false) (w : World) :
    Calls Try.prog 20 #[.int .i64 x, .int .i64 y] w fun e w' => e = .returned (.tuple #[.agg #[.int .i64 0, .int .i64 0, .int .i64 0, .int .i64 0], .int .i64 2]) ∧ Below w.heap.size w w' := by
  have h1 : x < 1 ∨ (1 ≤ x ∧ 1099511627776 < x) ∨ (1 ≤ x ∧ x ≤ 1099511627776 ∧ y < 1) ∨ (1 ≤ x ∧ x ≤ 1099511627776 ∧ 1 ≤ y ∧ 1048576 < y) := by
    have : ¬ (1 ≤ x ∧ x ≤ 1099511627776 ∧ 1 ≤ y ∧ y ≤ 1048576) := by simpa [newOk] using h
    omega
  clear h
  rcases h1 with h1 | ⟨h1, h2⟩ | ⟨h1, h2, h3⟩ | ⟨h1, h2, h3, h4⟩
  all_goals
    go_enter Try.func20, Try.ntmps20
    go_wp2
    refine bodyPost_ret (v := .tuple #[.agg #[.int .i64 0, .int .i64 0, .int .i64 0, .int .i64 0], .int .i64 2]) (by simp [results, Try.results20, go_sem]) rfl ⟨rfl, (by (repeat' (first | (with_reducible exact Below.refl _ _) | assumption | (with_reducible refine Below.setCell ?_ ?_ _) | (with_reducible refine Below.alloc ?_ ?_ _) | (with_reducible refine Below.drew ?_) | (with_reducible refine below_drewN ?_ _))); all_goals (first | assumption | omega | (simp; done) | (simp; omega)))⟩
end Go.Proofs.Ytnfehdcinmgnjaa
