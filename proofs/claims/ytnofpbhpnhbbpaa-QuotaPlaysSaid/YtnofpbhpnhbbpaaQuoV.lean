/- Two books of a law's own; valid. -/
import Derived.Test.YtnofpbhpnhbbpaaQuoHP
namespace Go.Proofs.Ytnofpbhpnhbbpaa
set_option linter.unusedVariables false
open Go.RowKit Go.Maps Go.Sort

theorem Qb.only {S : Nat → Prop} {w w' : World} {g b n : Nat} {r : Rl} {now : Nat} {m : List (List UInt8 × Acc)} (h : Qb w g b n r now m) (ho : Only S w w') (hg : ¬ S g) (hb : ¬ S b) : Qb w' g b n r now m := by
  refine ⟨Blk.only h.bk ho hg, ?_, h.mp.2⟩
  obtain ⟨es, clock, hb', Ft, hs, hD⟩ := h.mp.1
  exact ⟨es, clock, (ho.block b h.mp.lt hb).trans hb', Ft, hs, hD⟩
set_option maxHeartbeats 1000000 in
theorem asks_any {w : World} {g b n : Nat} {r : Rl} {now : Nat} {m : List (List UInt8 × Acc)} (h : Qb w g b n r now m) (hr : RlOk r) (t : Nat) (s : ByteArray) (k : Nat) (want : Bool) (m' : List (List UInt8 × Acc)) (hx : askM r (max now t) m s.data.toList k = (want, 0, m')) (hs : s.size ≤ 140737488355328) (ht : max now t ≤ 9223372036854775808) (hm : mayE t s.data.toList k = 0) (hn : n ≤ 1000000) :
    Calls Try.prog 16 #[.pointer (some ⟨g, 0, none⟩), .int .u64 (t : Int), .string s, .int .i64 (k : Int), .bool want] w fun e w' => e = .returned (.bool true) ∧ Qb w' g b (n + 1) r (max now t) m' ∧ Only (fun i => i = g ∨ i = b) w w' := by
  have H := ask_ok g b n r now m hr t s k hs ht w h hm hn
  rw [hx] at H
  have H := Lib.hid H
  clear h hx hm
  go_enter Try.func16, Try.ntmps16
  go_wp2_with (go_at_call 9; refine H.out.mono ?_; rintro e w1 ⟨rfl, h1⟩)
  cases want <;>
  · go_wp2_with fail
    go_ret
    exact ⟨rfl, h1⟩
/-- Two books of a law's own, and its copy of the rule. -/
structure B2 (V w : World) (r : Rl) (g1 b1 n1 c1 : Nat) (m1 : List (List UInt8 × Acc)) (g2 b2 n2 c2 : Nat) (m2 : List (List UInt8 × Acc)) : Prop where
  q1 : Qb w g1 b1 n1 r c1 m1
  q2 : Qb w g2 b2 n2 r c2 m2
  d1 : g1 ≠ g2
  d2 : g1 ≠ b2
  d3 : b1 ≠ g2
  d4 : b1 ≠ b2
  v1 : V.heap.size < g1
  v2 : V.heap.size < b1
  v3 : V.heap.size < g2
  v4 : V.heap.size < b2
  box : Blk w V.heap.size 30 #[.int .u64 (r.P : Int), .int .i64 (r.C : Int), .int .i64 (r.B : Int)]
  bel : Below V.heap.size V w
section
variable {V w w' : World} {r : Rl} {g1 b1 n1 c1 g2 b2 n2 c2 : Nat} {m1 m2 : List (List UInt8 × Acc)}
theorem B2.quiet (h : B2 V w r g1 b1 n1 c1 m1 g2 b2 n2 c2 m2) (hb : Below w.heap.size w w') : B2 V w' r g1 b1 n1 c1 m1 g2 b2 n2 c2 m2 :=
  ⟨h.q1.below hb, h.q2.below hb, h.d1, h.d2, h.d3, h.d4, h.v1, h.v2, h.v3, h.v4, h.box.below hb h.box.lt, h.bel.trans (hb.mono h.bel.size)⟩
theorem B2.turn1 (h : B2 V w r g1 b1 n1 c1 m1 g2 b2 n2 c2 m2) {n' c' : Nat} {m' : List (List UInt8 × Acc)} (q : Qb w' g1 b1 n' r c' m') (ho : Only (fun i => i = g1 ∨ i = b1) w w') : B2 V w' r g1 b1 n' c' m' g2 b2 n2 c2 m2 := by
  have e1 := h.d1
  have e2 := h.d2
  have e3 := h.d3
  have e4 := h.d4
  have v1 := h.v1
  have v2 := h.v2
  exact ⟨q, h.q2.only ho (by omega) (by omega), h.d1, h.d2, h.d3, h.d4, h.v1, h.v2, h.v3, h.v4, h.box.only ho (by omega), h.bel.trans (ho.below (fun i hi => by omega) h.bel.size)⟩
theorem B2.turn2 (h : B2 V w r g1 b1 n1 c1 m1 g2 b2 n2 c2 m2) {n' c' : Nat} {m' : List (List UInt8 × Acc)} (q : Qb w' g2 b2 n' r c' m') (ho : Only (fun i => i = g2 ∨ i = b2) w w') : B2 V w' r g1 b1 n1 c1 m1 g2 b2 n' c' m' := by
  have e1 := h.d1
  have e2 := h.d2
  have e3 := h.d3
  have e4 := h.d4
  have v1 := h.v3
  have v2 := h.v4
  exact ⟨h.q1.only ho (by omega) (by omega), q, h.d1, h.d2, h.d3, h.d4, h.v1, h.v2, h.v3, h.v4, h.box.only ho (by omega), h.bel.trans (ho.below (fun i hi => by omega) h.bel.size)⟩
theorem B2.ask1 (h : B2 V w r g1 b1 n1 c1 m1 g2 b2 n2 c2 m2) (hr : RlOk r) (t : Nat) (hc : c1 ≤ t) (s : ByteArray) (k : Nat) (R : Bool × Int × List (List UInt8 × Acc)) (hR : askM r t m1 s.data.toList k = R) (hs : s.size ≤ 140737488355328) (ht : t ≤ 9223372036854775808) (hm : mayE t s.data.toList k = 0) (hn : n1 ≤ 1000000) :
    Calls Try.prog 9 #[.pointer (some ⟨g1, 0, none⟩), .int .u64 (t : Int), .string s, .int .i64 (k : Int)] w fun e w' => e = .returned (.tuple #[.bool R.1, .int .i64 R.2.1]) ∧ B2 V w' r g1 b1 (n1 + 1) t R.2.2 g2 b2 n2 c2 m2 := by
  have hmx : max c1 t = t := by omega
  have H := ask_ok g1 b1 n1 r c1 m1 hr t s k hs (by omega) w h.q1 hm hn
  rw [hmx, hR] at H
  exact H.mono fun e w' ⟨h1, h2, h3⟩ => ⟨h1, h.turn1 h2 h3⟩
theorem B2.ask2 (h : B2 V w r g1 b1 n1 c1 m1 g2 b2 n2 c2 m2) (hr : RlOk r) (t : Nat) (hc : c2 ≤ t) (s : ByteArray) (k : Nat) (R : Bool × Int × List (List UInt8 × Acc)) (hR : askM r t m2 s.data.toList k = R) (hs : s.size ≤ 140737488355328) (ht : t ≤ 9223372036854775808) (hm : mayE t s.data.toList k = 0) (hn : n2 ≤ 1000000) :
    Calls Try.prog 9 #[.pointer (some ⟨g2, 0, none⟩), .int .u64 (t : Int), .string s, .int .i64 (k : Int)] w fun e w' => e = .returned (.tuple #[.bool R.1, .int .i64 R.2.1]) ∧ B2 V w' r g1 b1 n1 c1 m1 g2 b2 (n2 + 1) t R.2.2 := by
  have hmx : max c2 t = t := by omega
  have H := ask_ok g2 b2 n2 r c2 m2 hr t s k hs (by omega) w h.q2 hm hn
  rw [hmx, hR] at H
  exact H.mono fun e w' ⟨h1, h2, h3⟩ => ⟨h1, h.turn2 h2 h3⟩
theorem B2.left1 (h : B2 V w r g1 b1 n1 c1 m1 g2 b2 n2 c2 m2) (hr : RlOk r) (t : Nat) (hc : c1 ≤ t) (s : ByteArray) (hs : s.size ≤ 140737488355328) (ht : t ≤ 9223372036854775808) (hm : mayE t s.data.toList 0 = 0) :
    Calls Try.prog 13 #[.pointer (some ⟨g1, 0, none⟩), .int .u64 (t : Int), .string s] w fun e w' => e = .returned (.tuple #[.int .i64 (leftA r.C (used0 r.P (mget accZ m1 s.data.toList) t)), .int .i64 (leftA r.B (used1 r.P (mget accZ m1 s.data.toList) t)), .int .i64 0]) ∧ B2 V w' r g1 b1 n1 c1 m1 g2 b2 n2 c2 m2 := by
  have hmx : max c1 t = t := by omega
  have H := left_ok g1 b1 n1 r c1 m1 hr t s hs (by omega) w h.q1 hm
  rw [hmx] at H
  exact H.mono fun e w' ⟨h1, h2⟩ => ⟨h1, h.quiet h2⟩
/-- What Wait says. -/
def WaitR (r : Rl) (a : Acc) (t : Nat) (k : Int) (x : Nat) : Prop := (neverB r k = true ∧ x = 18446744073709551615) ∨ (neverB r k = false ∧ ∃ y, WaitP r a t k y ∧ x = waitV y)
theorem B2.wait1 (h : B2 V w r g1 b1 n1 c1 m1 g2 b2 n2 c2 m2) (hr : RlOk r) (t : Nat) (hc : c1 ≤ t) (s : ByteArray) (k : Int) (hs : s.size ≤ 140737488355328) (ht : t ≤ 4611686018427387904) (hm : mayE t s.data.toList k = 0) (hw : (mget accZ m1 s.data.toList).w ≤ t / r.P) :
    Calls Try.prog 14 #[.pointer (some ⟨g1, 0, none⟩), .int .u64 (t : Int), .string s, .int .i64 k] w fun e w' => ∃ x : Nat, e = .returned (.tuple #[.int .u64 (x : Int), .int .i64 0]) ∧ WaitR r (mget accZ m1 s.data.toList) t k x ∧ B2 V w' r g1 b1 n1 c1 m1 g2 b2 n2 c2 m2 := by
  have hmx : max c1 t = t := by omega
  cases hv : neverB r k
  · have H := wait_ok g1 b1 n1 r c1 m1 hr t s k hs (by omega) w h.q1 hm hv (by rw [hmx]; exact hw)
    rw [hmx] at H
    exact H.mono fun e w' ⟨x, h1, h2, h3⟩ => ⟨waitV x, h1, .inr ⟨hv, x, h2, rfl⟩, h.quiet h3⟩
  · exact (wait_never g1 b1 n1 r c1 m1 t s k hs w h.q1 hm hv).mono fun e w' ⟨h1, h2⟩ => ⟨18446744073709551615, h1, .inl ⟨hv, rfl⟩, h2 ▸ h⟩
end
set_option maxHeartbeats 1000000 in
set_option maxRecDepth 100000 in
theorem valid_any (p c d : Int) (w : World) :
    Calls Try.prog 12 #[.agg #[.int .u64 p, .int .i64 c, .int .i64 d]] w fun e w' => e = .returned (.bool (ruleB p c d)) ∧ Below w.heap.size w w' := by
  obtain ⟨R, hR⟩ : ∃ R, R = ruleB p c d := ⟨_, rfl⟩
  rw [← hR]
  unfold ruleB at hR
  have HR := Lib.hid hR
  clear hR
  go_enter Try.func12, Try.ntmps12
  go_wp2_with fail
  all_goals
    go_ret
    refine ⟨ret_bool ?_, (Below.refl _ _).alloc (Nat.le_refl _) _⟩
    rw [HR.out, Bool.eq_iff_iff]
    simp only [Bool.and_eq_true, decide_eq_true_eq, Bool.false_eq_true, false_iff]
    omega
end Go.Proofs.Ytnofpbhpnhbbpaa
