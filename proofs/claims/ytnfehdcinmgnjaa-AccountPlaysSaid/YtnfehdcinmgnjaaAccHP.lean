/- Sums of costs: no program in sight. -/
import Derived.Test.YtnfehdcinmgnjaaAccP
namespace Go.Proofs.Ytnfehdcinmgnjaa

def csum (l : List Int) : Int := l.foldr (· + ·) 0
theorem csum_cons (x : Int) (l : List Int) : csum (x :: l) = x + csum l := rfl
theorem csum_append (a b : List Int) : csum (a ++ b) = csum a + csum b := by
  induction a with
  | nil => simp [csum]
  | cons x r ih => simp only [List.cons_append, csum_cons, ih]; omega
theorem csum_bounds (l : List Int) (h : ∀ x ∈ l, isCost x = true) : 65 * (l.length : Int) ≤ csum l ∧ csum l ≤ 67000 * (l.length : Int) := by
  induction l with
  | nil => simp [csum]
  | cons x r ih =>
    have h1 := (isCost_iff x).1 (h x (List.mem_cons_self ..))
    have h2 := ih fun y hy => h y (List.mem_cons_of_mem _ hy)
    rw [csum_cons, List.length_cons]
    omega
/-- The costs among the first k numbers. -/
def csOf (l : List Int) (k : Nat) : List Int := (l.take k).filter isCost
theorem csOf_len (l : List Int) (k : Nat) : (csOf l k).length ≤ k := by
  refine Nat.le_trans (List.length_filter_le _ _) ?_
  rw [List.length_take]
  omega
theorem csOf_all (l : List Int) (k : Nat) : ∀ x ∈ csOf l k, isCost x = true := fun _ hx => (List.mem_filter.1 hx).2
theorem take_snocI (l : List Int) (k : Nat) (x : Int) (hx : l[k]? = some x) : l.take (k + 1) = l.take k ++ [x] := by
  rw [List.take_add_one, hx]; rfl
theorem csOf_yes (l : List Int) (k : Nat) (x : Int) (hx : l[k]? = some x) (h : isCost x = true) : csOf l (k + 1) = csOf l k ++ [x] := by
  unfold csOf
  rw [take_snocI l k x hx, List.filter_append]
  simp [h]
theorem csOf_no (l : List Int) (k : Nat) (x : Int) (hx : l[k]? = some x) (h : isCost x = false) : csOf l (k + 1) = csOf l k := by
  unfold csOf
  rw [take_snocI l k x hx, List.filter_append]
  simp [h]

theorem fitsIn_ok {A : Ac} (h : AcOk A) : fitsIn A.ub A.ue = true := by
  have := h.u0; have := h.s0; have := h.s1
  simp only [fitsIn, decide_eq_true_eq]
  exact ⟨by omega, by omega, by omega⟩
/-- Add and then Remove leave everything as it was. -/
theorem add_rem {A : Ac} (hA : AcOk A) (c : Int) (hc : isCost c = true) : acRem { A with ub := A.ub + c, ue := A.ue + 1 } c = (A, 0) := by
  have hf := fitsIn_ok hA
  have e1 : A.ub + c - c = A.ub := by omega
  have e2 : A.ue + 1 - 1 = A.ue := by omega
  rw [acRem_ok hc (by show fitsIn (A.ub + c - c) (A.ue + 1 - 1) = true; rw [e1, e2]; exact hf)]
  show ((⟨A.bb, A.be, A.ub + c - c, A.ue + 1 - 1⟩ : Ac), (0 : Int)) = _
  rw [e1, e2]
theorem chg_same {A : Ac} (hA : AcOk A) (c : Int) (hc : isCost c = true) (hlt : A.ue < 2097152) : acChg { A with ub := A.ub + c, ue := A.ue + 1 } c c = ({ A with ub := A.ub + c, ue := A.ue + 1 }, 0) := by
  unfold acChg
  rw [hc, add_rem hA c hc]
  simp only [Bool.and_self, if_true]
  exact acAdd_ok hc hlt
theorem rem_front {B E x : Int} {r : List Int} (h : ∀ y ∈ x :: r, isCost y = true) : acRem ⟨B, E, csum (x :: r), ((x :: r).length : Int)⟩ x = (⟨B, E, csum r, (r.length : Int)⟩, 0) := by
  have hc := h x (List.mem_cons_self ..)
  have hb := csum_bounds r fun y hy => h y (List.mem_cons_of_mem _ hy)
  have e1 : csum (x :: r) - x = csum r := by rw [csum_cons]; omega
  have e2 : ((x :: r).length : Int) - 1 = (r.length : Int) := by rw [List.length_cons]; omega
  have hf : fitsIn (csum (x :: r) - x) (((x :: r).length : Int) - 1) = true := by
    rw [e1, e2]
    simp only [fitsIn, decide_eq_true_eq]
    exact ⟨by omega, hb.1, hb.2⟩
  rw [acRem_ok hc hf]
  show ((⟨B, E, csum (x :: r) - x, ((x :: r).length : Int) - 1⟩ : Ac), (0 : Int)) = _
  rw [e1, e2]
end Go.Proofs.Ytnfehdcinmgnjaa
