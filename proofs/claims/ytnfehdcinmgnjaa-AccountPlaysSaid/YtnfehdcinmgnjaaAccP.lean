/- Accounts as plain numbers: no program in sight. -/
namespace Go.Proofs.Ytnfehdcinmgnjaa

/-- A budget (bytes, entries), and what is used of it. -/
structure Ac where
  bb : Int
  be : Int
  ub : Int
  ue : Int
def isCost (c : Int) : Bool := decide (65 ≤ c ∧ c ≤ 67000)
def acAdd (A : Ac) (c : Int) : Ac × Int := if isCost c then (if 2097152 ≤ A.ue then (A, 7) else ({ A with ub := A.ub + c, ue := A.ue + 1 }, 0)) else (A, 3)
def fitsIn (b e : Int) : Bool := decide (0 ≤ e ∧ 65 * e ≤ b ∧ b ≤ 67000 * e)
def acRem (A : Ac) (c : Int) : Ac × Int := if isCost c then (if fitsIn (A.ub - c) (A.ue - 1) then ({ A with ub := A.ub - c, ue := A.ue - 1 }, 0) else (A, 9)) else (A, 3)
def acChg (A : Ac) (c d : Int) : Ac × Int := if isCost c && isCost d then (if (acRem A c).2 = 0 then acAdd (acRem A c).1 d else ((acRem A c).1, (acRem A c).2)) else (A, 3)
/-- An account as New and the calls leave it. -/
structure AcOk (A : Ac) : Prop where
  b0 : 1 ≤ A.bb
  b1 : A.bb ≤ 1099511627776
  e0 : 1 ≤ A.be
  e1 : A.be ≤ 1048576
  u0 : 0 ≤ A.ue
  u1 : A.ue ≤ 2097152
  s0 : 65 * A.ue ≤ A.ub
  s1 : A.ub ≤ 67000 * A.ue

theorem isCost_iff (c : Int) : isCost c = true ↔ 65 ≤ c ∧ c ≤ 67000 := by simp [isCost]
theorem isCost_not (c : Int) : isCost c = false ↔ c < 65 ∨ 67000 < c := by simp only [isCost, decide_eq_false_iff_not]; omega
theorem acAdd_bad {A : Ac} {c : Int} (h : isCost c = false) : acAdd A c = (A, 3) := by simp [acAdd, h]
theorem acAdd_full {A : Ac} {c : Int} (h : isCost c = true) (h2 : 2097152 ≤ A.ue) : acAdd A c = (A, 7) := by simp [acAdd, h, h2]
theorem acAdd_ok {A : Ac} {c : Int} (h : isCost c = true) (h2 : A.ue < 2097152) : acAdd A c = ({ A with ub := A.ub + c, ue := A.ue + 1 }, 0) := by
  have : ¬ 2097152 ≤ A.ue := by omega
  simp [acAdd, h, this]
theorem acRem_bad {A : Ac} {c : Int} (h : isCost c = false) : acRem A c = (A, 3) := by simp [acRem, h]
theorem acRem_none {A : Ac} {c : Int} (h : isCost c = true) (h2 : fitsIn (A.ub - c) (A.ue - 1) = false) : acRem A c = (A, 9) := by simp [acRem, h, h2]
theorem acRem_ok {A : Ac} {c : Int} (h : isCost c = true) (h2 : fitsIn (A.ub - c) (A.ue - 1) = true) : acRem A c = ({ A with ub := A.ub - c, ue := A.ue - 1 }, 0) := by simp [acRem, h, h2]

theorem acAdd_AcOk {A : Ac} (c : Int) (h : AcOk A) : AcOk (acAdd A c).1 := by
  obtain ⟨a, b, d, e, f, g, i, j⟩ := h
  cases hc : isCost c with
  | false => rw [acAdd_bad hc]; exact ⟨a, b, d, e, f, g, i, j⟩
  | true =>
    rcases Int.lt_or_le A.ue 2097152 with h2 | h2
    · have := (isCost_iff c).1 hc
      rw [acAdd_ok hc h2]
      exact ⟨a, b, d, e, by show 0 ≤ A.ue + 1; omega, by show A.ue + 1 ≤ _; omega, by show _ ≤ A.ub + c; simp only; omega, by show A.ub + c ≤ 67000 * (A.ue + 1); omega⟩
    · rw [acAdd_full hc h2]; exact ⟨a, b, d, e, f, g, i, j⟩
theorem acRem_AcOk {A : Ac} (c : Int) (h : AcOk A) : AcOk (acRem A c).1 := by
  obtain ⟨a, b, d, e, f, g, i, j⟩ := h
  cases hc : isCost c with
  | false => rw [acRem_bad hc]; exact ⟨a, b, d, e, f, g, i, j⟩
  | true =>
    cases h2 : fitsIn (A.ub - c) (A.ue - 1) with
    | true =>
      have h3 : 0 ≤ A.ue - 1 ∧ 65 * (A.ue - 1) ≤ A.ub - c ∧ A.ub - c ≤ 67000 * (A.ue - 1) := by simpa [fitsIn] using h2
      rw [acRem_ok hc h2]
      exact ⟨a, b, d, e, h3.1, by show A.ue - 1 ≤ _; omega, h3.2.1, h3.2.2⟩
    | false => rw [acRem_none hc h2]; exact ⟨a, b, d, e, f, g, i, j⟩
theorem acChg_AcOk {A : Ac} (c d : Int) (h : AcOk A) : AcOk (acChg A c d).1 := by
  unfold acChg
  split
  · split
    · exact acAdd_AcOk d (acRem_AcOk c h)
    · exact acRem_AcOk c h
  · exact h
end Go.Proofs.Ytnfehdcinmgnjaa
