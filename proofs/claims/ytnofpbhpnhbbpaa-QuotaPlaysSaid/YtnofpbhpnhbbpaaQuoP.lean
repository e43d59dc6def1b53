/- A book of quotas as plain data: accounts, what they have used at a time. -/
import Derived.Lib.Hide
import Derived.WalkSmall
import Derived.IntWalk
namespace Go.Proofs.Ytnofpbhpnhbbpaa

structure Acc where
  w : Nat
  n0 : Nat
  n1 : Nat
  b0 : Nat
  b1 : Nat
def accZ : Acc := ⟨0, 0, 0, 0, 0⟩
def accV (a : Acc) : Value := .agg #[.int .u64 (a.w : Int), .int .i64 (a.n0 : Int), .int .i64 (a.n1 : Int), .int .i64 (a.b0 : Int), .int .i64 (a.b1 : Int)]
structure AccOk (a : Acc) : Prop where
  w : a.w ≤ 9223372036854775808
  n0 : a.n0 ≤ 1073741824
  n1 : a.n1 ≤ 1073741824
  b0 : a.b0 ≤ 1073741824
  b1 : a.b1 ≤ 1073741824
theorem accZ_ok : AccOk accZ := ⟨by decide, by decide, by decide, by decide, by decide⟩
/-- The account in a window. -/
def accAt (a : Acc) (v : Nat) : Acc := if v = a.w + 1 then ⟨v, 0, 0, a.n0, a.n1⟩ else if v > a.w then ⟨v, 0, 0, 0, 0⟩ else a
theorem accAt_next {a : Acc} {v : Nat} (h : v = a.w + 1) : accAt a v = ⟨v, 0, 0, a.n0, a.n1⟩ := by unfold accAt; rw [if_pos h]
theorem accAt_late {a : Acc} {v : Nat} (h : v > a.w + 1) : accAt a v = ⟨v, 0, 0, 0, 0⟩ := by unfold accAt; rw [if_neg (by omega), if_pos (by omega)]
theorem accAt_same {a : Acc} {v : Nat} (h : v ≤ a.w) : accAt a v = a := by unfold accAt; rw [if_neg (by omega), if_neg (by omega)]
theorem accAt_ok {a : Acc} (h : AccOk a) {v : Nat} (hv : v ≤ 9223372036854775808) : AccOk (accAt a v) := by
  obtain ⟨h1, h2, h3, h4, h5⟩ := h
  unfold accAt
  split
  · exact ⟨hv, by simp, by simp, h2, h3⟩
  · split
    · exact ⟨hv, by simp, by simp, by simp, by simp⟩
    · exact ⟨h1, h2, h3, h4, h5⟩
/-- What of n is left in the window after it. -/
def part (P t b : Nat) : Nat := b * (P - t % P) / P
theorem part_le {P t b : Nat} (hP : 1 ≤ P) : part P t b ≤ b := by
  unfold part
  rw [Nat.div_le_iff_le_mul_add_pred (by omega)]
  have : b * (P - t % P) ≤ b * P := Nat.mul_le_mul_left _ (Nat.sub_le _ _)
  have h2 : P * b = b * P := Nat.mul_comm _ _
  omega
theorem part_zero (P t : Nat) : part P t 0 = 0 := by simp [part]
theorem part_mono {P t t' b : Nat} (h : t % P ≤ t' % P) : part P t' b ≤ part P t b := by
  unfold part
  exact Nat.div_le_div_right (Nat.mul_le_mul_left _ (by omega))
def used0 (P : Nat) (a : Acc) (t : Nat) : Nat := (accAt a (t / P)).n0 + part P t (accAt a (t / P)).b0
def used1 (P : Nat) (a : Acc) (t : Nat) : Nat := (accAt a (t / P)).n1 + part P t (accAt a (t / P)).b1
structure Rl where
  P : Nat
  C : Nat
  B : Nat
structure RlOk (r : Rl) : Prop where
  P : 1 ≤ r.P
  P2 : r.P ≤ 4294967296
  C : r.C ≤ 1073741824
  B : r.B ≤ 1073741824
def allowsA (r : Rl) (a : Acc) (t : Nat) (k : Int) : Bool := decide (used0 r.P a t + 1 ≤ r.C) && decide (k ≤ (r.B : Int) - (used1 r.P a t : Int))
def idleA (P now : Nat) (a : Acc) : Bool := decide ((accAt a (now / P)).n0 = 0) && decide ((accAt a (now / P)).n1 = 0) && (decide ((accAt a (now / P)).b0 = 0) && decide ((accAt a (now / P)).b1 = 0))
theorem used0_le {P : Nat} {a : Acc} (h : AccOk a) (hP : 1 ≤ P) {t : Nat} (ht : t ≤ 9223372036854775808) : used0 P a t ≤ 2147483648 := by
  have h1 := accAt_ok h (v := t / P) (Nat.le_trans (Nat.div_le_self _ _) ht)
  have h2 := part_le (t := t) (b := (accAt a (t / P)).b0) hP
  have := h1.n0
  have := h1.b0
  unfold used0
  omega
theorem used1_le {P : Nat} {a : Acc} (h : AccOk a) (hP : 1 ≤ P) {t : Nat} (ht : t ≤ 9223372036854775808) : used1 P a t ≤ 2147483648 := by
  have h1 := accAt_ok h (v := t / P) (Nat.le_trans (Nat.div_le_self _ _) ht)
  have h2 := part_le (t := t) (b := (accAt a (t / P)).b1) hP
  have := h1.n1
  have := h1.b1
  unfold used1
  omega
theorem part_u64 (P t d m : Nat) (hP : 1 ≤ P) (hP2 : P ≤ 4294967296) (hd : d ≤ 1073741824) (hm : m ≤ 1073741824) :
    IntKind.i64.wrap ((m : Int) + IntKind.i64.wrap (IntKind.u64.wrap ((IntKind.u64.wrap (IntKind.u64.wrap (d : Int) * IntKind.u64.wrap ((P : Int) - (t : Int).tmod (P : Int)))).tdiv (P : Int)))) = ((m + d * (P - t % P) / P : Nat) : Int) := by
  have h1 : (t : Int).tmod (P : Int) = ((t % P : Nat) : Int) := rfl
  have hlt : t % P < P := Nat.mod_lt _ (by omega)
  have h2 : (P : Int) - ((t % P : Nat) : Int) = ((P - t % P : Nat) : Int) := by omega
  have hpl := part_le (P := P) (t := t) (b := d) hP
  unfold part at hpl
  have hqP : P - t % P ≤ 4294967296 := by omega
  rw [h1, h2]
  generalize P - t % P = q at hpl hqP ⊢
  have hq : d * q ≤ 1073741824 * 4294967296 := Nat.mul_le_mul hd hqP
  have h3 : (d : Int) * (q : Int) = ((d * q : Nat) : Int) := by push_cast; rfl
  have h4 : ((d * q : Nat) : Int).tdiv (P : Int) = ((d * q / P : Nat) : Int) := rfl
  rw [IntWalk.u64_in (d : Int) (by omega), IntWalk.u64_in (q : Int) (by omega), h3]
  generalize d * q = z at hq hpl h4 ⊢
  rw [IntWalk.u64_in (z : Int) (by omega), h4]
  generalize z / P = y at hpl ⊢
  rw [IntWalk.u64_in (y : Int) (by omega), IntWalk.i64_in (y : Int) (by omega), IntWalk.i64_in _ (by omega)]
  omega
end Go.Proofs.Ytnofpbhpnhbbpaa
