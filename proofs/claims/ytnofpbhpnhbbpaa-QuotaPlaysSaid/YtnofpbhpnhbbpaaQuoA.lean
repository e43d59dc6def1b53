/- Contracts of account.at, of used, allows, idle, may, none and Effective. -/
import Derived.Test.YtnofpbhpnhbbpaaShelf
import Derived.Test.YtnofpbhpnhbbpaaRows
import Derived.Test.YtnofpbhpnhbbpaaStrs
import Derived.Test.YtnofpbhpnhbbpaaBlk
import Derived.Test.YtnofpbhpnhbbpaaQuoP
import Derived.Test.YtnofpbhpnhbbpaaMapV
import Derived.WalkKit
import Derived.ProofKit
import Derived.OpenShut
import Derived.Handy
import Derived.Outline
import Derived.Lib.Hide
import Derived.Deep.QuietTactic
import Derived.BigQuiet
import Derived.Deep.RegionWith
import Derived.Deep.RegionHeld3
import Derived.StillTailTactics
namespace Go.Proofs.Ytnofpbhpnhbbpaa
set_option linter.unusedVariables false
open Go.RowKit

/-- What lies in block g: a book's rule, its time and its map. -/
def BkC (w : World) (g : Nat) (r : Rl) (now b : Nat) : Prop := Blk w g 61 #[.int .u64 (r.P : Int), .int .i64 (r.C : Int), .int .i64 (r.B : Int), .int .u64 (now : Int), .map (some b)]
theorem BkC.cells {w : World} {g : Nat} {r : Rl} {now b : Nat} (h : BkC w g r now b) : w.cell? ⟨g, 0, none⟩ = some (.int .u64 (r.P : Int)) ∧ w.cell? ⟨g, 1, none⟩ = some (.int .i64 (r.C : Int)) ∧ w.cell? ⟨g, 2, none⟩ = some (.int .i64 (r.B : Int)) ∧ w.cell? ⟨g, 3, none⟩ = some (.int .u64 (now : Int)) ∧ w.cell? ⟨g, 4, none⟩ = some (.map (some b)) :=
  ⟨Blk.cell h 0, Blk.cell h 1, Blk.cell h 2, Blk.cell h 3, Blk.cell h 4⟩

set_option maxHeartbeats 1000000 in
set_option maxRecDepth 100000 in
theorem at_any (a : Acc) (v : Nat) (ha : AccOk a) (hv : v ≤ 9223372036854775808) (w : World) :
    Calls Try.prog 24 #[accV a, .int .u64 (v : Int)] w fun e w' => e = .returned (accV (accAt a v)) ∧ Below w.heap.size w w' := by
  obtain ⟨w0, n0, n1, b0, b1⟩ := a
  have h1 := ha.w
  have hw : IntKind.u64.wrap ((w0 : Int) + 1) = (w0 : Int) + 1 := IntWalk.u64_in _ (by simp only at h1; omega)
  have hc : v = w0 + 1 ∨ v > w0 + 1 ∨ v ≤ w0 := by omega
  rcases hc with hc | hc | hc
  · subst hc
    have HA := Lib.hid (accAt_next (a := ⟨w0, n0, n1, b0, b1⟩) (v := w0 + 1) rfl)
    have e1 : ((w0 + 1 : Nat) : Int) = (w0 : Int) + 1 := by omega
    rw [e1]
    unfold accV
    go_enter Try.func24, Try.ntmps24
    go_wp2
    refine bodyPost_ret (v := .agg #[.int .u64 ((w0 : Int) + 1), .int .i64 0, .int .i64 0, .int .i64 (n0 : Int), .int .i64 (n1 : Int)]) (by simp [results, Try.results24, go_sem]) rfl ⟨?_, ?_⟩
    · rw [HA.out]; simp
    · repeat (first | exact Below.refl _ _ | refine Below.setCell ?_ (by simp <;> omega) _ | refine Below.alloc ?_ (by simp <;> omega) _)
  · have HA := Lib.hid (accAt_late (a := ⟨w0, n0, n1, b0, b1⟩) (v := v) hc)
    unfold accV
    go_enter Try.func24, Try.ntmps24
    go_wp2
    refine bodyPost_ret (v := .agg #[.int .u64 (v : Int), .int .i64 0, .int .i64 0, .int .i64 0, .int .i64 0]) (by simp [results, Try.results24, go_sem]) rfl ⟨?_, ?_⟩
    · rw [HA.out]; simp
    · repeat (first | exact Below.refl _ _ | refine Below.setCell ?_ (by simp <;> omega) _ | refine Below.alloc ?_ (by simp <;> omega) _)
  · have HA := Lib.hid (accAt_same (a := ⟨w0, n0, n1, b0, b1⟩) (v := v) hc)
    unfold accV
    go_enter Try.func24, Try.ntmps24
    go_wp2
    refine bodyPost_ret (v := .agg #[.int .u64 (w0 : Int), .int .i64 (n0 : Int), .int .i64 (n1 : Int), .int .i64 (b0 : Int), .int .i64 (b1 : Int)]) (by simp [results, Try.results24, go_sem]) rfl ⟨?_, ?_⟩
    · rw [HA.out]
    · repeat (first | exact Below.refl _ _ | refine Below.setCell ?_ (by simp <;> omega) _ | refine Below.alloc ?_ (by simp <;> omega) _)

set_option maxHeartbeats 1000000 in
set_option maxRecDepth 100000 in
theorem used_any (g : Nat) (r : Rl) (now b : Nat) (a : Acc) (t : Nat) (hr : RlOk r) (ha : AccOk a) (ht : t ≤ 9223372036854775808) (w : World) (h : BkC w g r now b) :
    Calls Try.prog 30 #[.pointer (some ⟨g, 0, none⟩), accV a, .int .u64 (t : Int)] w fun e w' => e = .returned (.agg #[.int .i64 (used0 r.P a t : Int), .int .i64 (used1 r.P a t : Int)]) ∧ Below w.heap.size w w' := by
  obtain ⟨c0, c1, c2, c3, c4⟩ := h.cells
  have hg := h.lt
  have hP := hr.P
  have hP2 := hr.P2
  have hq : t / r.P ≤ 9223372036854775808 := Nat.le_trans (Nat.div_le_self _ _) ht
  have ha2 := accAt_ok ha hq
  have HA := Lib.hid (at_any a (t / r.P) ha hq)
  have e1 : ((t / r.P : Nat) : Int) = (t : Int) / (r.P : Int) := by simp
  rw [e1] at HA
  unfold used0 used1 part
  generalize accAt a (t / r.P) = A at HA ha2 ⊢
  obtain ⟨w0, n0, n1, b0, b1⟩ := a
  obtain ⟨v0, m0, m1, d0, d1⟩ := A
  obtain ⟨z1, z2, z3, z4, z5⟩ := ha2
  dsimp only at z1 z2 z3 z4 z5 ⊢
  unfold accV at HA ⊢
  have hP0 : (r.P : Int) ≠ 0 := by omega
  have hP0' : ((r.P : Int) == 0) = false := by rw [beq_eq_false_iff_ne]; omega
  have hPn : r.P ≠ 0 := by omega
  have hwq : IntKind.u64.wrap ((t : Int) / (r.P : Int)) = (t : Int) / (r.P : Int) := by rw [← e1]; generalize t / r.P = q at hq ⊢; exact IntWalk.u64_in _ (by omega)
  clear e1 hq ha hr h
  have hb0 : Below w.heap.size w ((w.alloc (.cells #[.int .u64 (w0 : Int), .int .i64 (n0 : Int), .int .i64 (n1 : Int), .int .i64 (b0 : Int), .int .i64 (b1 : Int)] 71)).alloc (.cells #[.int .i64 0, .int .i64 0] 69)) :=
    ((Below.refl _ _).alloc (Nat.le_refl _) _).alloc (by simp) _
  have hk0 := Blk.alloc (Blk.new w 71 #[.int .u64 (w0 : Int), .int .i64 (n0 : Int), .int .i64 (n1 : Int), .int .i64 (b0 : Int), .int .i64 (b1 : Int)]) (.cells #[.int .i64 0, .int .i64 0] 69)
  have hk1 : Blk ((w.alloc (.cells #[.int .u64 (w0 : Int), .int .i64 (n0 : Int), .int .i64 (n1 : Int), .int .i64 (b0 : Int), .int .i64 (b1 : Int)] 71)).alloc (.cells #[.int .i64 0, .int .i64 0] 69)) (w.heap.size + 1) 69 #[.int .i64 0, .int .i64 0] := by
    have := Blk.new (w.alloc (.cells #[.int .u64 (w0 : Int), .int .i64 (n0 : Int), .int .i64 (n1 : Int), .int .i64 (b0 : Int), .int .i64 (b1 : Int)] 71)) 69 #[.int .i64 0, .int .i64 0]
    simpa using this
  go_enter Try.func30, Try.ntmps30
  go_wp2
  obtain ⟨W, hW⟩ : ∃ W, ((w.alloc (.cells #[.int .u64 (w0 : Int), .int .i64 (n0 : Int), .int .i64 (n1 : Int), .int .i64 (b0 : Int), .int .i64 (b1 : Int)] 71)).alloc (.cells #[.int .i64 0, .int .i64 0] 69)) = W := ⟨_, rfl⟩
  rw [hW] at hb0 hk0 hk1 ⊢
  clear hW
  have x0 := hk0.cell 0
  have x1 := hk0.cell 1
  have x2 := hk0.cell 2
  have x3 := hk0.cell 3
  have x4 := hk0.cell 4
  go_still_tail 4, (by kernel_rfl)

  change wpList _ _ _ _ _ W.drew
  have hb1 : Below w.heap.size w W.drew := below_drewN hb0 1
  have hj0 := hk0.drewN 1
  have hj1 := hk1.drewN 1
  change Blk W.drew _ _ _ at hj0 hj1
  obtain ⟨W1, hW1⟩ : ∃ W1, W.drew = W1 := ⟨_, rfl⟩
  rw [hW1] at hb1 hj0 hj1 ⊢
  clear x0 x1 x2 x3 x4 hb0 hk0 hk1 hW1 W hwq
  have hf := hj0.frozen
  go_wp2_with ((go_at_call 24; refine (HA.out _).mono ?_; rintro e w1 ⟨rfl, hb2⟩; clear HA; have hq0 := hj0.below hb2 hj0.lt; have y0 := hq0.cell 0; have y1 := hq0.cell 1; have y2 := hq0.cell 2; have y3 := hq0.cell 3; have y4 := hq0.cell 4; have hf2 := hq0.frozen))
  have hw1 : w.heap.size + 1 < w1.heap.size := Nat.lt_of_lt_of_le hj1.lt hb2.size
  have hq1 : Blk (((((w1.setCell ⟨w.heap.size, 0, none⟩ (.int .u64 (v0 : Int))).setCell ⟨w.heap.size, 1, none⟩ (.int .i64 (m0 : Int))).setCell ⟨w.heap.size, 2, none⟩ (.int .i64 (m1 : Int))).setCell ⟨w.heap.size, 3, none⟩ (.int .i64 (d0 : Int))).setCell ⟨w.heap.size, 4, none⟩ (.int .i64 (d1 : Int))) w.heap.size 71 #[.int .u64 (v0 : Int), .int .i64 (m0 : Int), .int .i64 (m1 : Int), .int .i64 (d0 : Int), .int .i64 (d1 : Int)] := by
    have := ((((hq0.set_ 0 (.int .u64 (v0 : Int))).set_ 1 (.int .i64 (m0 : Int))).set_ 2 (.int .i64 (m1 : Int))).set_ 3 (.int .i64 (d0 : Int))).set_ 4 (.int .i64 (d1 : Int))
    simpa using this
  have hj2 : Blk (((((w1.setCell ⟨w.heap.size, 0, none⟩ (.int .u64 (v0 : Int))).setCell ⟨w.heap.size, 1, none⟩ (.int .i64 (m0 : Int))).setCell ⟨w.heap.size, 2, none⟩ (.int .i64 (m1 : Int))).setCell ⟨w.heap.size, 3, none⟩ (.int .i64 (d0 : Int))).setCell ⟨w.heap.size, 4, none⟩ (.int .i64 (d1 : Int))) (w.heap.size + 1) 69 #[.int .i64 0, .int .i64 0] := by
    repeat (first | exact hj1.below hb2 hj1.lt | refine Blk.far ?_ (by simp) _)
  have hb3 : Below w.heap.size w (((((w1.setCell ⟨w.heap.size, 0, none⟩ (.int .u64 (v0 : Int))).setCell ⟨w.heap.size, 1, none⟩ (.int .i64 (m0 : Int))).setCell ⟨w.heap.size, 2, none⟩ (.int .i64 (m1 : Int))).setCell ⟨w.heap.size, 3, none⟩ (.int .i64 (d0 : Int))).setCell ⟨w.heap.size, 4, none⟩ (.int .i64 (d1 : Int))) := by
    repeat (first | exact hb1.trans (hb2.mono hb1.size) | refine Below.setCell ?_ (by simp) _)
  obtain ⟨W2, hW2⟩ : ∃ W2, (((((w1.setCell ⟨w.heap.size, 0, none⟩ (.int .u64 (v0 : Int))).setCell ⟨w.heap.size, 1, none⟩ (.int .i64 (m0 : Int))).setCell ⟨w.heap.size, 2, none⟩ (.int .i64 (m1 : Int))).setCell ⟨w.heap.size, 3, none⟩ (.int .i64 (d0 : Int))).setCell ⟨w.heap.size, 4, none⟩ (.int .i64 (d1 : Int))) = W2 := ⟨_, rfl⟩
  rw [hW2] at hq1 hj2 hb3 ⊢
  clear hW2 hj0 hj1 hb1 hf hb2 hq0 y0 y1 y2 y3 y4 hf2
  have y1 := hq1.cell 1
  have y2 := hq1.cell 2
  have y3 := hq1.cell 3
  have y4 := hq1.cell 4
  have u0 := hj2.cell 0
  have u1 := hj2.cell 1
  have hf2 := hj2.frozen
  have P0 := Lib.hid (part_u64 r.P t d0 m0 hP hP2 (by omega) (by omega))
  have P1 := Lib.hid (part_u64 r.P t d1 m1 hP hP2 (by omega) (by omega))
  refine wp_loop_rounds 3 ?_
  rw [rounds_succ]
  go_wp2
  go_still_tail 21, (by kernel_rfl)
  rw [P0.out]
  change wpList _ _ _ _ _ W2.drew
  have hb4 : Below w.heap.size w W2.drew := below_drewN hb3 1
  have hq2 := hq1.drewN 1
  have hj3 := hj2.drewN 1
  change Blk W2.drew _ _ _ at hq2 hj3
  obtain ⟨W3, hW3⟩ : ∃ W3, W2.drew = W3 := ⟨_, rfl⟩
  rw [hW3] at hb4 hq2 hj3 ⊢
  clear hW3 hb3 hq1 hj2 y1 y2 y3 y4 u0 u1 hf2 W2 hw1 w1 W1
  obtain ⟨X0, hX0⟩ : ∃ X0 : Int, X0 = ((m0 + d0 * (r.P - t % r.P) / r.P : Nat) : Int) := ⟨_, rfl⟩
  rw [← hX0]
  have HX0 := Lib.hid hX0
  clear hX0 P0
  have u0 := hj3.cell 0
  have hf3 := hj3.frozen
  go_wp2_with fail
  have hb5 : Below w.heap.size w (W3.setCell ⟨w.heap.size + 1, 0, none⟩ (.int .i64 X0)) := hb4.setCell (by simp) _
  have hq4 : Blk (W3.setCell ⟨w.heap.size + 1, 0, none⟩ (.int .i64 X0)) _ _ _ := hq2.far (by simp) _
  have hj4 : Blk (W3.setCell ⟨w.heap.size + 1, 0, none⟩ (.int .i64 X0)) (w.heap.size + 1) 69 #[.int .i64 X0, .int .i64 0] := by simpa using hj3.set_ 0 (.int .i64 X0)
  obtain ⟨W4, hW4⟩ : ∃ W4, (W3.setCell ⟨w.heap.size + 1, 0, none⟩ (.int .i64 X0)) = W4 := ⟨_, rfl⟩
  rw [hW4] at hb5 hq4 hj4 ⊢
  clear hW4 hb4 hq2 hj3 u0 hf3 W3
  rw [rounds_succ]
  have y2 := hq4.cell 2
  have y4 := hq4.cell 4
  have u1 := hj4.cell 1
  have hf4 := hj4.frozen
  go_wp2_with fail
  go_still_tail 21, (by kernel_rfl)
  rw [P1.out]
  change wpList _ _ _ _ _ W4.drew
  have hb6 : Below w.heap.size w W4.drew := below_drewN hb5 1
  have hj5 := hj4.drewN 1
  change Blk W4.drew _ _ _ at hj5
  obtain ⟨W5, hW5⟩ : ∃ W5, W4.drew = W5 := ⟨_, rfl⟩
  rw [hW5] at hb6 hj5 ⊢
  clear hW5 hb5 hq4 hj4 y2 y4 u1 hf4 W4
  obtain ⟨X1, hX1⟩ : ∃ X1 : Int, X1 = ((m1 + d1 * (r.P - t % r.P) / r.P : Nat) : Int) := ⟨_, rfl⟩
  rw [← hX1]
  have HX1 := Lib.hid hX1
  clear hX1 P1
  have u0 := hj5.cell 0
  have u1 := hj5.cell 1
  have hf5 := hj5.frozen
  go_wp2_with fail
  rw [rounds_succ]
  go_wp2_with fail
  have hk : Blk (((W5.setCell ⟨w.heap.size + 1, 1, none⟩ (.int .i64 X1)).setCell ⟨w.heap.size + 1, 0, none⟩ (.int .i64 X0)).setCell ⟨w.heap.size + 1, 1, none⟩ (.int .i64 X1)) (w.heap.size + 1) 69 #[.int .i64 X0, .int .i64 X1] := by
    simpa using ((hj5.set_ 1 (.int .i64 X1)).set_ 0 (.int .i64 X0)).set_ 1 (.int .i64 X1)
  have k0 := hk.cell 0
  have k1 := hk.cell 1
  refine bodyPost_ret (v := .agg #[.int .i64 X0, .int .i64 X1]) (by simp [results, Try.results30, go_sem, k0, k1]) rfl ⟨?_, ?_⟩
  · rw [HX0.out, HX1.out]
  · repeat (first | exact hb6 | refine Below.setCell ?_ (by simp) _)
end Go.Proofs.Ytnofpbhpnhbbpaa
