/- The document's book in memory: used, allows. -/
import Derived.Test.YtnofpbhpnhbbpaaQuoL
namespace Go.Proofs.Ytnofpbhpnhbbpaa
set_option linter.unusedVariables false
open Go.RowKit Go.Maps Go.Sort

def usedL0 (P : Nat) (L : List Alw) (c : List UInt8) (t : Nat) : Nat := (accOf L c (t / P)).n0 + part P t (accOf L c (t / P)).b0
def usedL1 (P : Nat) (L : List Alw) (c : List UInt8) (t : Nat) : Nat := (accOf L c (t / P)).n1 + part P t (accOf L c (t / P)).b1
set_option maxHeartbeats 2000000 in
set_option maxRecDepth 100000 in
theorem mused_any {w : World} {B M : Nat} {r : Rl} {now : Nat} {q : Option Addr} {cap : Nat} {L : List Alw} (h : Md w B M r now q cap L) (hr : RlOk r) (hl : L.length ≤ 100) (hk : ∀ x ∈ L, x.k ≤ 1073741824) (s : ByteArray) (t : Nat) (ht : t ≤ 9223372036854775808) (hA : AccOk (accOf L s.data.toList (t / r.P))) :
    Calls Try.prog 34 #[.pointer (some ⟨M, 0, none⟩), .string s, .int .u64 (t : Int)] w fun e w' => e = .returned (.tuple #[.int .i64 (usedL0 r.P L s.data.toList t : Int), .int .i64 (usedL1 r.P L s.data.toList t : Int)]) ∧ Below w.heap.size w w' := by
  have hP := hr.P
  have hP2 := hr.P2
  have hPn : r.P ≠ 0 := by omega
  obtain ⟨c0, c1, c2, c3, c4⟩ := h.cells
  have hq : t / r.P ≤ 9223372036854775808 := Nat.le_trans (Nat.div_le_self _ _) ht
  obtain ⟨V, hV⟩ : ∃ V, V = t / r.P := ⟨_, rfl⟩
  have hdiv : (t : Int) / (r.P : Int) = (V : Int) := by rw [hV]; simp
  have hwq : IntKind.u64.wrap (V : Int) = (V : Int) := IntWalk.u64_in _ (by omega)
  have HS := Lib.hid (sums_any h hl hk s V)
  have z1 := hA.n0
  have z2 := hA.n1
  have z3 := hA.b0
  have z4 := hA.b1
  unfold usedL0 usedL1 part
  rw [← hV] at z1 z2 z3 z4 hq ⊢
  unfold accOf prevN at z1 z2 z3 z4 ⊢
  dsimp only at z1 z2 z3 z4 ⊢
  by_cases h0 : V = 0
  · subst h0
    simp only [if_true] at z1 z2 z3 z4 ⊢
    have E0 := Lib.hid (show cntL L s.data.toList 0 + 0 * (r.P - t % r.P) / r.P = cntL L s.data.toList 0 by rw [Nat.zero_mul, Nat.zero_div, Nat.add_zero])
    have E1 := Lib.hid (show bytL L s.data.toList 0 + 0 * (r.P - t % r.P) / r.P = bytL L s.data.toList 0 by rw [Nat.zero_mul, Nat.zero_div, Nat.add_zero])
    rw [E0.out, E1.out]
    have hdiv0 : (t : Int) / (r.P : Int) = 0 := hdiv
    clear hdiv hwq E0 E1 h hA hV
    go_enter Try.func34, Try.ntmps34
    go_wp2_with fail
    refine HS.out.mono ?_
    rintro e w1 ⟨rfl, b1⟩
    go_wp2_with fail
    go_ret2
    exact ⟨rfl, b1⟩
  · rw [if_neg h0] at z3 z4 ⊢
    rw [if_neg h0]
    have HS2 : Hid (∀ w', Below w.heap.size w w' → Calls Try.prog 42 #[.pointer (some ⟨M, 0, none⟩), .string s, .int .u64 ((V : Int) - 1)] w' fun e w'' => e = .returned (.tuple #[.int .i64 (cntL L s.data.toList (V - 1) : Int), .int .i64 (bytL L s.data.toList (V - 1) : Int)]) ∧ Below w'.heap.size w' w'') := fun w' hb => by
      have := sums_any (h.below hb) hl hk s (V - 1)
      rw [show ((V - 1 : Nat) : Int) = (V : Int) - 1 by omega] at this
      exact this
    have hlt : t % r.P < r.P := Nat.mod_lt _ (by omega)
    obtain ⟨R, hR⟩ : ∃ R, R = r.P - t % r.P := ⟨_, rfl⟩
    have hRI : (r.P : Int) - (t : Int) % (r.P : Int) = (R : Int) := by
      have : (t : Int) % (r.P : Int) = ((t % r.P : Nat) : Int) := by simp
      rw [this]; omega
    have hR2 : R ≤ r.P := by omega
    rw [← hR]
    generalize cntL L s.data.toList V = n0 at *
    generalize bytL L s.data.toList V = n1 at *
    generalize cntL L s.data.toList (V - 1) = k0 at *
    generalize bytL L s.data.toList (V - 1) = k1 at *
    have fact : ∀ d m : Nat, d ≤ 1073741824 → m ≤ 1073741824 → ∃ z y : Nat, y = d * R / r.P ∧ IntKind.u64.wrap (d : Int) = (d : Int) ∧ IntKind.u64.wrap ((d : Int) * (R : Int)) = (z : Int) ∧ IntKind.u64.wrap ((z : Int) / (r.P : Int)) = (y : Int) ∧ y ≤ 1073741824 := by
      intro d m hd hm
      have e1 : d * R ≤ 1073741824 * 4294967296 := Nat.mul_le_mul hd (by omega)
      have e2 : (d : Int) * (R : Int) = ((d * R : Nat) : Int) := by push_cast; rfl
      have e3 : d * R / r.P ≤ d := by
        have := part_le (P := r.P) (t := t) (b := d) hP
        unfold part at this
        rwa [← hR] at this
      have e4 : ((d * R : Nat) : Int) / (r.P : Int) = ((d * R / r.P : Nat) : Int) := rfl
      refine ⟨d * R, d * R / r.P, rfl, IntWalk.u64_in _ (by omega), ?_, ?_, by omega⟩
      · rw [e2]; generalize d * R = z at e1 ⊢; exact IntWalk.u64_in _ (by omega)
      · rw [e4]; generalize d * R / r.P = y at e3 ⊢; exact IntWalk.u64_in _ (by omega)
    obtain ⟨za, ya, hya, a1, a2, a3, a4⟩ := fact k0 n0 z3 z1
    obtain ⟨zb, yb, hyb, b1, b2, b3, b4⟩ := fact k1 n1 z4 z2
    rw [← hya, ← hyb]
    have hV1 : (1 : Int) ≤ (V : Int) := by omega
    have hV0 : ((V : Int) == 0) = false := by simp; omega
    have HBK := Lib.hid h
    clear fact hya hyb h hA hV hlt hR h0 z3 z4 hl hk
    go_enter Try.func34, Try.ntmps34
    go_wp2_with fail
    refine HS.out.mono ?_
    rintro e w1 ⟨rfl, bb1⟩
    have HB1 := Lib.hid bb1
    clear bb1 c0 c1 c2 c3 c4
    go_wp2_with fail
    refine (HS2.out w1 HB1.out).mono ?_
    rintro e w2 ⟨rfl, bb2⟩
    have HB2 := Lib.hid (HB1.out.trans (bb2.mono HB1.out.size))
    clear bb2
    go_upto_region 7 with (fail)
    go_quiet (fail)
    go_wp2_with fail
    go_ret2
    exact ⟨by simp, below_drewN HB2.out _⟩
def allowsL (r : Rl) (L : List Alw) (c : List UInt8) (t : Nat) (k : Int) : Bool := decide (usedL0 r.P L c t + 1 ≤ r.C) && decide (k ≤ (r.B : Int) - (usedL1 r.P L c t : Int))
theorem usedL_bd {P : Nat} {L : List Alw} {c : List UInt8} {t : Nat} (hP : 1 ≤ P) (hA : AccOk (accOf L c (t / P))) : usedL0 P L c t ≤ 2147483648 ∧ usedL1 P L c t ≤ 2147483648 := by
  have h1 := part_le (P := P) (t := t) (b := (accOf L c (t / P)).b0) hP
  have h2 := part_le (P := P) (t := t) (b := (accOf L c (t / P)).b1) hP
  have := hA.n0
  have := hA.n1
  have := hA.b0
  have := hA.b1
  unfold usedL0 usedL1
  constructor <;> omega
set_option maxHeartbeats 2000000 in
set_option maxRecDepth 100000 in
theorem mallows_any {w : World} {B M : Nat} {r : Rl} {now : Nat} {q : Option Addr} {cap : Nat} {L : List Alw} (h : Md w B M r now q cap L) (hr : RlOk r) (hl : L.length ≤ 100) (hk : ∀ x ∈ L, x.k ≤ 1073741824) (s : ByteArray) (t : Nat) (k : Int) (ht : t ≤ 9223372036854775808) (hA : AccOk (accOf L s.data.toList (t / r.P))) (h0 : 0 ≤ k) (h9 : k ≤ 9223372036854775807) :
    Calls Try.prog 33 #[.pointer (some ⟨M, 0, none⟩), .string s, .int .u64 (t : Int), .int .i64 k] w fun e w' => e = .returned (.bool (allowsL r L s.data.toList t k)) ∧ Below w.heap.size w w' := by
  have hC := hr.C
  have hB := hr.B
  have HU := Lib.hid (mused_any h hr hl hk s t ht hA)
  obtain ⟨b0, b1⟩ := usedL_bd hr.P hA
  unfold allowsL
  generalize usedL0 r.P L s.data.toList t = x0 at *
  generalize usedL1 r.P L s.data.toList t = x1 at *
  obtain ⟨R, hR⟩ : ∃ R, R = (decide (x0 + 1 ≤ r.C) && decide (k ≤ (r.B : Int) - (x1 : Int))) := ⟨_, rfl⟩
  rw [← hR]
  have HR := Lib.hid hR
  have HM := Lib.hid h
  clear hR h hA hr hl hk
  go_enter Try.func33, Try.ntmps33
  go_wp2_with fail
  refine HU.out.mono ?_
  rintro e w1 ⟨rfl, bb⟩
  have hm := HM.out.below bb
  obtain ⟨c0, c1, c2, c3, c4⟩ := hm.cells
  have HB := Lib.hid bb
  clear hm bb HU
  by_cases hk2 : k ≤ (r.B : Int)
  · go_wp2_with fail
    all_goals
      go_ret
      refine ⟨ret_bool ?_, HB.out⟩
      rw [HR.out, Bool.eq_iff_iff]
      simp only [Bool.and_eq_true, decide_eq_true_eq, Bool.false_eq_true, false_iff]
      omega
  · go_wp2_with fail
    all_goals
      go_ret
      refine ⟨ret_bool ?_, HB.out⟩
      rw [HR.out, Bool.eq_iff_iff]
      simp only [Bool.and_eq_true, decide_eq_true_eq, Bool.false_eq_true, false_iff]
      omega
end Go.Proofs.Ytnofpbhpnhbbpaa
