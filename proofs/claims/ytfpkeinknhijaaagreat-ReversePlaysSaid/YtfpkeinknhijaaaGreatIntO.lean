/- Names in order: the document's way. -/
import Derived.Sort.KeysCollected
namespace Go.Proofs.YtfpkeinknhijaaaGreat
open Go.Sort

def insB (x : List UInt8) : List (List UInt8) → List (List UInt8)
  | [] => [x]
  | y :: r => if y < x then y :: insB x r else x :: y :: r
theorem insB_perm (x : List UInt8) : ∀ l : List (List UInt8), (insB x l).Perm (x :: l)
  | [] => List.Perm.refl _
  | y :: r => by
    unfold insB
    split
    · exact (List.Perm.cons y (insB_perm x r)).trans (List.Perm.swap x y r)
    · exact List.Perm.refl _
theorem insB_sorted (x : List UInt8) : ∀ l : List (List UInt8), l.Pairwise (fun a b => leB a b = true) → (insB x l).Pairwise (fun a b => leB a b = true)
  | [], _ => by simp [insB]
  | y :: r, h => by
    rw [List.pairwise_cons] at h
    unfold insB
    split
    · rename_i hlt
      rw [List.pairwise_cons]
      refine ⟨fun z hz => ?_, insB_sorted x r h.2⟩
      rcases List.mem_cons.1 ((insB_perm x r).mem_iff.1 hz) with rfl | hz
      · simp only [leB, decide_eq_true_eq]; exact List.le_of_lt hlt
      · exact h.1 z hz
    · rename_i hlt
      have hle : x ≤ y := List.not_lt.1 hlt
      rw [List.pairwise_cons, List.pairwise_cons]
      refine ⟨fun z hz => ?_, h⟩
      simp only [leB, decide_eq_true_eq]
      rcases List.mem_cons.1 hz with rfl | hz
      · exact hle
      · have := h.1 z hz
        simp only [leB, decide_eq_true_eq] at this
        exact List.le_trans hle this
def isortB (l : List (List UInt8)) : List (List UInt8) := l.foldl (fun out x => insB x out) []
theorem foldB : ∀ (l out : List (List UInt8)), out.Pairwise (fun a b => leB a b = true) → (l.foldl (fun out x => insB x out) out).Perm (l ++ out) ∧ (l.foldl (fun out x => insB x out) out).Pairwise (fun a b => leB a b = true)
  | [], out, h => ⟨List.Perm.refl _, h⟩
  | x :: l, out, h => by
    obtain ⟨h1, h2⟩ := foldB l (insB x out) (insB_sorted x out h)
    refine ⟨h1.trans ?_, h2⟩
    exact ((List.Perm.append_left l (insB_perm x out)).trans List.perm_middle)
theorem isortB_is (l : List (List UInt8)) : l.mergeSort leB = isortB l := by
  have tr : ∀ a b c : List UInt8, leB a b = true → leB b c = true → leB a c = true := fun a b c h1 h2 => by simp only [leB, decide_eq_true_eq] at *; exact List.le_trans h1 h2
  have to : ∀ a b : List UInt8, (leB a b || leB b a) = true := fun a b => by simp only [leB, Bool.or_eq_true, decide_eq_true_eq]; exact List.le_total a b
  obtain ⟨h1, h2⟩ := foldB l [] List.Pairwise.nil
  rw [List.append_nil] at h1
  refine List.Perm.eq_of_pairwise (le := fun a b => leB a b = true) (fun a b _ _ h1 h2 => ?_) (List.pairwise_mergeSort tr to l) h2 ((List.mergeSort_perm l leB).trans h1.symm)
  simp only [leB, decide_eq_true_eq] at h1 h2
  exact List.le_antisymm h1 h2
end Go.Proofs.YtfpkeinknhijaaaGreat
