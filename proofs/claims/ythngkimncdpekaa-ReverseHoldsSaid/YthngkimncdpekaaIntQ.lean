/- Names with numbers: what is free, how many there are, and what calls keep. -/
import Derived.Test.YthngkimncdpekaaIntP
namespace Go.Proofs.Ythngkimncdpekaa
set_option linter.unusedVariables false

theorem range_split {n m : Nat} (h : n < m) : List.range m = List.range n ++ n :: List.range' (n + 1) (m - n - 1) := by
  rw [List.range_eq_range', List.range_eq_range']
  have e : m = n + (1 + (m - n - 1)) := by omega
  rw [show List.range' 0 m = List.range' 0 (n + (1 + (m - n - 1))) by rw [← e]]
  rw [← List.range'_append_1, ← List.range'_append_1, Nat.zero_add]
  rfl
def freeBelow (l : Nms) (n : Nat) : List Nat := (List.range n).filter (fun m => !liveB l m)
def freeAbove (l : Nms) (n : Nat) : List Nat := (List.range' (n + 1) (l.length - n - 1)).filter (fun m => !liveB l m)
theorem freeL_live {l : Nms} {n : Nat} (h : n < l.length) (hv : liveB l n = true) : freeL l = freeBelow l n ++ freeAbove l n := by
  unfold freeL freeBelow freeAbove
  rw [range_split h, List.filter_append, List.filter_cons, hv]
  rfl
theorem freeL_dead {l : Nms} {n : Nat} (h : n < l.length) (hv : liveB l n = false) : freeL l = freeBelow l n ++ n :: freeAbove l n := by
  unfold freeL freeBelow freeAbove
  rw [range_split h, List.filter_append, List.filter_cons, hv]
  rfl
theorem liveB_set {l : Nms} {n m : Nat} {x : List UInt8 × Int} (h : n < l.length) : liveB (l.set n x) m = if m = n then liveX x else liveB l m := by
  unfold liveB
  rw [nmAt_set h]
  split
  · rfl
  · rfl
theorem freeBelow_set {l : Nms} {n : Nat} (x : List UInt8 × Int) (h : n < l.length) : freeBelow (l.set n x) n = freeBelow l n := by
  unfold freeBelow
  apply List.filter_congr
  intro m hm
  rw [List.mem_range] at hm
  rw [liveB_set h, if_neg (by omega)]
theorem freeAbove_set {l : Nms} {n : Nat} (x : List UInt8 × Int) (h : n < l.length) : freeAbove (l.set n x) n = freeAbove l n := by
  unfold freeAbove
  rw [List.length_set]
  apply List.filter_congr
  intro m hm
  rw [List.mem_range'_1] at hm
  rw [liveB_set h, if_neg (by omega)]
theorem freeBelow_lowest (l : Nms) : freeBelow l (lowest l) = [] := by
  unfold freeBelow
  rw [List.filter_eq_nil_iff]
  intro m hm
  rw [List.mem_range] at hm
  rw [lowest_min l hm]
  decide
/-- A number that is free is taken: the lowest one, the first of those that are free. -/
theorem freeL_take {l : Nms} (h : lowest l < l.length) (x : List UInt8 × Int) (hx : liveX x = true) : freeL l = lowest l :: freeL (l.set (lowest l) x) := by
  rw [freeL_dead h (lowest_dead l), freeBelow_lowest, freeL_live (l := l.set (lowest l) x) (n := lowest l) (by rw [List.length_set]; exact h) (by rw [liveB_set h, if_pos rfl, hx]),
    freeBelow_set x h, freeBelow_lowest, freeAbove_set x h]
  rfl
theorem freeL_none {l : Nms} (h : lowest l = l.length) : freeL l = [] := by
  have := freeBelow_lowest l
  rw [h] at this
  exact this
theorem freeL_snoc {l : Nms} (h : lowest l = l.length) (x : List UInt8 × Int) (hx : liveX x = true) : freeL (l ++ [x]) = [] := by
  unfold freeL
  rw [List.filter_eq_nil_iff]
  intro m hm
  rw [List.mem_range, List.length_append] at hm
  simp at hm
  have e : liveB (l ++ [x]) m = true := by
    by_cases e : m < l.length
    · unfold liveB nmAt
      rw [getD_append_left e]
      have := lowest_min l (m := m) (by rw [h]; exact e)
      unfold liveB nmAt at this
      exact this
    · obtain rfl : m = l.length := by omega
      unfold liveB nmAt
      rw [List.getD_eq_getElem?_getD]
      unfold liveX at hx
      simpa using hx
  rw [e]
  decide
/-- A number becomes free: it is put into its place. -/
theorem freeL_give {l : Nms} {n : Nat} (hv : liveB l n = true) : freeL (l.set n ([], 0)) = freeBelow l n ++ n :: freeAbove l n := by
  have h := live_lt hv
  rw [freeL_dead (l := l.set n ([], 0)) (n := n) (by rw [List.length_set]; exact h) (by rw [liveB_set h, if_pos rfl]; rfl), freeBelow_set _ h, freeAbove_set _ h]
theorem freeBelow_lt {l : Nms} {n m : Nat} (h : m ∈ freeBelow l n) : m < n := by
  unfold freeBelow at h
  have := (List.mem_filter.1 h).1
  rwa [List.mem_range] at this
theorem freeAbove_gt {l : Nms} {n m : Nat} (h : m ∈ freeAbove l n) : n < m := by
  unfold freeAbove at h
  have := (List.mem_filter.1 h).1
  rw [List.mem_range'_1] at this
  omega
theorem freeL_sorted (l : Nms) : (freeL l).Pairwise (· < ·) := List.Pairwise.filter _ List.pairwise_lt_range
theorem freeL_lt {l : Nms} {n : Nat} (h : n ∈ freeL l) : n < l.length := by
  unfold freeL at h
  have := (List.mem_filter.1 h).1
  rwa [List.mem_range] at this
theorem freeL_len (l : Nms) : (freeL l).length ≤ l.length := by
  unfold freeL
  have := List.length_filter_le (fun n => !liveB l n) (List.range l.length)
  rwa [List.length_range] at this

/-! ### How many -/
theorem liveN_append (l r : Nms) : liveN (l ++ r) = liveN l + liveN r := by
  unfold liveN
  rw [List.filter_append, List.length_append]
theorem split_at {l : Nms} {n : Nat} (h : n < l.length) : l = l.take n ++ nmAt l n :: l.drop (n + 1) := by
  rw [nmAt_of (List.getElem?_eq_getElem h), ← List.drop_eq_getElem_cons h, List.take_append_drop]
theorem set_at {l : Nms} {n : Nat} (h : n < l.length) (x : List UInt8 × Int) : l.set n x = l.take n ++ x :: l.drop (n + 1) := by
  rw [List.set_eq_take_append_cons_drop, if_pos h]
theorem liveN_one (x : List UInt8 × Int) : liveN [x] = if liveX x = true then 1 else 0 := by
  unfold liveN
  rw [List.filter_cons]
  split <;> rfl
theorem liveN_set {l : Nms} {n : Nat} (h : n < l.length) (x : List UInt8 × Int) : liveN (l.set n x) + (if liveB l n = true then 1 else 0) = liveN l + (if liveX x = true then 1 else 0) := by
  have e1 : liveN l = liveN (l.take n) + (liveN [nmAt l n] + liveN (l.drop (n + 1))) := by
    conv => lhs; rw [split_at h]
    rw [liveN_append, show nmAt l n :: l.drop (n + 1) = [nmAt l n] ++ l.drop (n + 1) from rfl, liveN_append]
  have e2 : liveN (l.set n x) = liveN (l.take n) + (liveN [x] + liveN (l.drop (n + 1))) := by
    rw [set_at h, liveN_append, show x :: l.drop (n + 1) = [x] ++ l.drop (n + 1) from rfl, liveN_append]
  rw [e1, e2, liveN_one, liveN_one]
  have e3 : liveX (nmAt l n) = liveB l n := rfl
  rw [e3]
  omega
theorem liveN_put {l : Nms} {n : Nat} (h : n ≤ l.length) (hd : liveB l n = false) (x : List UInt8 × Int) (hx : liveX x = true) : liveN (putL l n x) = liveN l + 1 := by
  unfold putL
  by_cases hn : n < l.length
  · rw [if_pos hn]
    have := liveN_set hn x
    rw [hd, hx] at this
    simpa using this
  · rw [if_neg hn, liveN_append, liveN_one, if_pos hx]
theorem liveN_le (l : Nms) : liveN l ≤ l.length := List.length_filter_le _ _

/-! ### What calls keep -/
theorem distinct_set {l : Nms} (hd : Distinct l) {n : Nat} (h : n < l.length) {x : List UInt8 × Int} (hx : liveX x = true → ∀ m, m ≠ n → liveB l m = true → (nmAt l m).1 ≠ x.1) : Distinct (l.set n x) := by
  intro i j hi hj e
  rw [liveB_set h] at hi hj
  rw [nmAt_set h, nmAt_set h] at e
  by_cases ei : i = n
  · by_cases ej : j = n
    · rw [ei, ej]
    · rw [if_pos ei] at hi e
      rw [if_neg ej] at hj e
      exact absurd e.symm (hx hi j ej hj)
  · rw [if_neg ei] at hi e
    by_cases ej : j = n
    · rw [if_pos ej] at hj e
      exact absurd e (hx hj i ei hi)
    · rw [if_neg ej] at hj e
      exact hd i j hi hj e
theorem liveB_put {l : Nms} {n m : Nat} {x : List UInt8 × Int} (h : n ≤ l.length) : liveB (putL l n x) m = if m = n then liveX x else liveB l m := by
  unfold liveB
  rw [nmAt_put h]
  split <;> rfl
theorem distinct_put {l : Nms} (hd : Distinct l) {n : Nat} (h : n ≤ l.length) {x : List UInt8 × Int} (hx : ∀ m, m ≠ n → liveB l m = true → (nmAt l m).1 ≠ x.1) : Distinct (putL l n x) := by
  intro i j hi hj e
  rw [liveB_put h] at hi hj
  rw [nmAt_put h, nmAt_put h] at e
  by_cases ei : i = n
  · by_cases ej : j = n
    · rw [ei, ej]
    · rw [if_pos ei] at e
      rw [if_neg ej] at hj e
      exact absurd e.symm (hx j ej hj)
  · rw [if_neg ei] at hi e
    by_cases ej : j = n
    · rw [if_pos ej] at e
      exact absurd e (hx i ei hi)
    · rw [if_neg ej] at hj e
      exact hd i j hi hj e
/-- A table that is right: at most 'most' names, all of them valid and different; no text where there is none; numbers below 'most'; at most R references to a name. -/
structure Wf (most : Int) (R : Int) (l : Nms) : Prop where
  dist : Distinct l
  size : (l.length : Int) ≤ most
  refs : ∀ n, 0 ≤ (nmAt l n).2 ∧ (nmAt l n).2 ≤ R
  text : ∀ n, liveB l n = true → validB (nmAt l n).1 = true
  none : ∀ n, liveB l n = false → nmAt l n = ([], 0)
theorem Wf.nil (most R : Int) (hm : 0 ≤ most) (hR : 0 ≤ R) : Wf most R [] := by
  refine ⟨fun i j hi => (by cases hi), hm, fun n => ?_, fun n hn => (by cases hn), fun n _ => rfl⟩
  show 0 ≤ (0 : Int) ∧ 0 ≤ R
  exact ⟨by decide, hR⟩
theorem Wf.mono {most R R' : Int} {l : Nms} (h : Wf most R l) (hR : R ≤ R') : Wf most R' l :=
  ⟨h.dist, h.size, fun n => ⟨(h.refs n).1, Int.le_trans (h.refs n).2 hR⟩, h.text, h.none⟩
theorem live_of_lt_liveN {l : Nms} (h : liveN l < l.length) : lowest l < l.length := by
  rcases Nat.lt_or_ge (lowest l) l.length with h1 | h1
  · exact h1
  · exfalso
    have : liveN l = l.length := by
      unfold liveN
      rw [List.filter_eq_self.2]
      intro x hx
      obtain ⟨i, hi, rfl⟩ := List.mem_iff_getElem.1 hx
      have := lowest_min l (m := i) (by omega)
      unfold liveB at this
      rw [nmAt_of (List.getElem?_eq_getElem hi)] at this
      exact this
    omega
theorem Wf.add {most R : Int} {l : Nms} (h : Wf most R l) (hR : 1 ≤ R + 1) (s : List UInt8) : Wf most (R + 1) (addM most l s).1 := by
  unfold addM
  by_cases hv : validB s = true
  · rw [if_pos hv]
    cases hf : findN l s with
    | some n =>
      obtain ⟨h1, h2⟩ := findN_some hf
      have hl := live_lt h1
      have hr := h.refs n
      have hp : 0 < (nmAt l n).2 := by unfold liveB at h1; simpa using h1
      have hx : liveX (s, (nmAt l n).2 + 1) = true := by unfold liveX; simp; omega
      refine ⟨distinct_set h.dist hl (fun _ m hm hlm e => hm (h.dist m n hlm h1 (e.trans h2.symm))), by rw [List.length_set]; exact h.size, fun m => ?_, fun m hm => ?_, fun m hm => ?_⟩
      · rw [nmAt_set hl]
        split
        · exact ⟨by simp only; omega, by simp only; omega⟩
        · exact ⟨(h.refs m).1, by have := (h.refs m).2; omega⟩
      · rw [liveB_set hl] at hm
        rw [nmAt_set hl]
        split
        · exact hv
        · rename_i e; rw [if_neg e] at hm; exact h.text m hm
      · rw [liveB_set hl] at hm
        rw [nmAt_set hl]
        split
        · rename_i e; rw [if_pos e, hx] at hm; cases hm
        · rename_i e; rw [if_neg e] at hm; exact h.none m hm
    | none =>
      simp only
      split
      · exact h.mono (by omega)
      · rename_i hm
        have hn := lowest_le l
        have hln := liveN_le l
        have hlt : lowest l < most := by
          rcases Nat.lt_or_ge (liveN l) l.length with h1 | h1
          · have := live_of_lt_liveN h1
            have := h.size
            omega
          · omega
        have hx : liveX (s, (1 : Int)) = true := rfl
        refine ⟨distinct_put h.dist hn (fun m hm hlm e => findN_none hf m hlm e), by rw [putL_len _ _ _ hn]; have := h.size; omega, fun m => ?_, fun m hm => ?_, fun m hm => ?_⟩
        · rw [nmAt_put hn]
          split
          · exact ⟨by simp, by simp only; omega⟩
          · exact ⟨(h.refs m).1, by have := (h.refs m).2; omega⟩
        · rw [liveB_put hn] at hm
          rw [nmAt_put hn]
          split
          · exact hv
          · rename_i e; rw [if_neg e] at hm; exact h.text m hm
        · rw [liveB_put hn] at hm
          rw [nmAt_put hn]
          split
          · rename_i e; rw [if_pos e, hx] at hm; cases hm
          · rename_i e; rw [if_neg e] at hm; exact h.none m hm
  · rw [if_neg hv]
    exact h.mono (by omega)
theorem Wf.rel {most R : Int} {l : Nms} (h : Wf most R l) (n : Int) : Wf most R (relM l n).1 := by
  unfold relM
  by_cases hh : hasM l n = true
  · rw [if_pos hh]
    unfold hasM at hh
    rw [Bool.and_eq_true] at hh
    have hl := live_lt hh.2
    have hr := h.refs n.toNat
    split
    · rename_i h1
      refine ⟨distinct_set h.dist hl (fun _ m hm hlm e => hm (h.dist m _ hlm hh.2 e)), by rw [List.length_set]; exact h.size, fun m => ?_, fun m hm => ?_, fun m hm => ?_⟩
      · rw [nmAt_set hl]
        split
        · exact ⟨by simp only; omega, by simp only; omega⟩
        · exact h.refs m
      · rw [liveB_set hl] at hm
        rw [nmAt_set hl]
        split
        · exact h.text _ hh.2
        · rename_i e; rw [if_neg e] at hm; exact h.text m hm
      · rw [liveB_set hl] at hm
        rw [nmAt_set hl]
        split
        · rename_i e
          rw [if_pos e] at hm
          unfold liveX at hm
          simp at hm
          omega
        · rename_i e; rw [if_neg e] at hm; exact h.none m hm
    · refine ⟨distinct_set h.dist hl (fun hx => by cases hx), by rw [List.length_set]; exact h.size, fun m => ?_, fun m hm => ?_, fun m hm => ?_⟩
      · rw [nmAt_set hl]
        split
        · exact ⟨by simp, by simp only; omega⟩
        · exact h.refs m
      · rw [liveB_set hl] at hm
        rw [nmAt_set hl]
        split
        · rename_i e; rw [if_pos e] at hm; cases hm
        · rename_i e; rw [if_neg e] at hm; exact h.text m hm
      · rw [liveB_set hl] at hm
        rw [nmAt_set hl]
        split
        · rfl
        · rename_i e; rw [if_neg e] at hm; exact h.none m hm
  · rw [if_neg hh]
    exact h
end Go.Proofs.Ythngkimncdpekaa
