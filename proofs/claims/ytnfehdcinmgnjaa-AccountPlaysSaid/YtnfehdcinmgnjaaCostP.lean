/- What an entry costs, as plain numbers: no program in sight. -/
import Derived.Test.YtnfehdcinmgnjaaTagsP
import Derived.Test.YtnfehdcinmgnjaaKeyP
namespace Go.Proofs.Ytnfehdcinmgnjaa
set_option linter.unusedVariables false

theorem kIns_last (x : Bt) : ∀ acc : List Bt, (acc ++ [x]).Pairwise (· < ·) → kIns x acc = acc ++ [x] := by
  intro acc
  induction acc with
  | nil => intro _; rfl
  | cons y r ih =>
    intro h
    have h1 : y < x := (List.pairwise_cons.1 h).1 x (by simp)
    unfold kIns
    rw [if_pos h1, ih (List.pairwise_cons.1 h).2]
    rfl
theorem kUniq_of_sorted (l : List Bt) (h : l.Pairwise (· < ·)) : kUniq l = l := by
  have key : ∀ k, k ≤ l.length → kUniq (l.take k) = l.take k := by
    intro k
    induction k with
    | zero => intro _; rfl
    | succ k ih =>
      intro hk
      have hx : l[k]? = some l[k] := List.getElem?_eq_getElem (by omega)
      rw [take_snoc l k _ hx, kUniq_snoc, ih (by omega)]
      refine kIns_last _ _ ?_
      rw [← take_snoc l k _ hx]
      exact h.sublist (List.take_sublist _ _)
  have := key l.length (Nat.le_refl _)
  rwa [List.take_length] at this

def okTags (l : List Bt) : Bool := l.all tagOk && decide (l.length ≤ 16) && decide (l.Pairwise (· < ·))
def lenSum (l : List Bt) : Nat := (l.map (·.length)).sum
/-- Cost, of the key's length, the value's and the tags: a number, or 0 and the error. -/
def acCost (kl vl : Nat) (l : List Bt) : Int × Int := if kValid kl && okTags l then (if 65536 < vl then (0, 5) else (((kl + vl + 64 + lenSum l : Nat) : Int), 0)) else (0, 2)

theorem acCost_bad {kl vl : Nat} {l : List Bt} (h : (kValid kl && okTags l) = false) : acCost kl vl l = (0, 2) := by simp [acCost, h]
theorem acCost_long {kl vl : Nat} {l : List Bt} (h : (kValid kl && okTags l) = true) (h2 : 65536 < vl) : acCost kl vl l = (0, 5) := by simp [acCost, h, h2]
theorem acCost_ok {kl vl : Nat} {l : List Bt} (h : (kValid kl && okTags l) = true) (h2 : vl ≤ 65536) : acCost kl vl l = (((kl + vl + 64 + lenSum l : Nat) : Int), 0) := by
  have : ¬ 65536 < vl := by omega
  simp [acCost, h, this]

theorem okTags_of {l : List Bt} (h : kTags l = (l, 0)) : okTags l = true := by
  unfold kTags at h
  split at h
  · rename_i h1
    split at h
    · rename_i h2
      have e : kUniq l = l := congrArg Prod.fst h
      rw [e] at h2
      have h3 := kUniq_sorted l
      rw [e] at h3
      simp only [okTags, Bool.and_eq_true, decide_eq_true_eq]
      exact ⟨⟨h1, h2⟩, h3⟩
    · exact absurd (congrArg Prod.snd h) (fun h => by simp at h)
  · exact absurd (congrArg Prod.snd h) (fun h => by simp at h)
theorem kTags_of {l : List Bt} (h : okTags l = true) : kTags l = (l, 0) := by
  simp only [okTags, Bool.and_eq_true, decide_eq_true_eq] at h
  obtain ⟨⟨h1, h2⟩, h3⟩ := h
  have e := kUniq_of_sorted l h3
  rw [kTags_fine l h1, e, if_pos h2]

/-- The tags before the k-th are tags, each greater than the one before it. -/
def Good (l : List Bt) (k : Nat) : Prop := ∀ j x, j < k → l[j]? = some x → tagOk x = true ∧ (∀ y, 1 ≤ j → l[j - 1]? = some y → y < x)
theorem Good.zero (l : List Bt) : Good l 0 := fun j x h => by omega
theorem Good.step {l : List Bt} {k : Nat} {x : Bt} (h : Good l k) (hx : l[k]? = some x) (ht : tagOk x = true) (hy : ∀ y, 1 ≤ k → l[k - 1]? = some y → y < x) : Good l (k + 1) := fun j z hj hz => by
  rcases Nat.lt_succ_iff_lt_or_eq.1 hj with h1 | h1
  · exact h j z h1 hz
  · subst h1
    rw [hx] at hz
    cases hz
    exact ⟨ht, hy⟩
theorem Good.sorted {l : List Bt} (h : Good l l.length) : l.Pairwise (· < ·) := by
  have key : ∀ k, k ≤ l.length → (l.take k).Pairwise (· < ·) := by
    intro k
    induction k with
    | zero => intro _; simp
    | succ k ih =>
      intro hk
      have hx : l[k]? = some l[k] := List.getElem?_eq_getElem (by omega)
      rw [take_snoc l k _ hx, List.pairwise_append]
      refine ⟨ih (by omega), by simp, fun a ha b hb => ?_⟩
      simp only [List.mem_singleton] at hb
      subst hb
      rcases Nat.eq_zero_or_pos k with h0 | h0
      · subst h0; simp at ha
      · have hy : l[k - 1]? = some l[k - 1] := List.getElem?_eq_getElem (by omega)
        have hlt := (h k _ (by omega) hx).2 _ h0 hy
        have hih := ih (by omega)
        have e : l.take k = l.take (k - 1) ++ [l[k - 1]] := by
          have := take_snoc l (k - 1) _ hy
          rwa [show k - 1 + 1 = k by omega] at this
        rw [e] at ha hih
        rcases List.mem_append.1 ha with ha | ha
        · have := (List.pairwise_append.1 hih).2.2 a ha l[k - 1] (by simp)
          exact List.lt_trans this hlt
        · simp only [List.mem_singleton] at ha
          subst ha
          exact hlt
  have := key l.length (Nat.le_refl _)
  rwa [List.take_length] at this
theorem Good.ok {l : List Bt} (h : Good l l.length) (hl : l.length ≤ 16) : okTags l = true := by
  simp only [okTags, Bool.and_eq_true, decide_eq_true_eq]
  refine ⟨⟨List.all_eq_true.2 fun x hx => ?_, hl⟩, h.sorted⟩
  obtain ⟨j, hj⟩ := List.getElem?_of_mem hx
  exact (h j x (by
    rcases Nat.lt_or_ge j l.length with h1 | h1
    · exact h1
    · rw [List.getElem?_eq_none h1] at hj; cases hj) hj).1
theorem okTags_long {l : List Bt} (h : 16 < l.length) : okTags l = false := by
  simp only [okTags, Bool.and_eq_false_iff, decide_eq_false_iff_not]
  exact .inl (.inr (by omega))
theorem okTags_bad {l : List Bt} {k : Nat} {x : Bt} (hx : l[k]? = some x) (h : tagOk x = false) : okTags l = false := by
  cases hh : okTags l with
  | false => rfl
  | true =>
    simp only [okTags, Bool.and_eq_true] at hh
    have := List.all_eq_true.1 hh.1.1 x (List.mem_of_getElem? hx)
    rw [h] at this; cases this
theorem okTags_order {l : List Bt} {k : Nat} {x y : Bt} (h1 : 1 ≤ k) (hx : l[k]? = some x) (hy : l[k - 1]? = some y) (h : ¬ y < x) : okTags l = false := by
  cases hh : okTags l with
  | false => rfl
  | true =>
    simp only [okTags, Bool.and_eq_true, decide_eq_true_eq] at hh
    have hk : k < l.length := by
      rcases Nat.lt_or_ge k l.length with h | h
      · exact h
      · rw [List.getElem?_eq_none h] at hx; cases hx
    have := List.pairwise_iff_getElem.1 hh.2 (k - 1) k (by omega) hk (by omega)
    have e1 : l[k] = x := Option.some.inj ((List.getElem?_eq_getElem hk).symm.trans hx)
    have e2 : l[k - 1] = y := Option.some.inj ((List.getElem?_eq_getElem (show k - 1 < l.length by omega)).symm.trans hy)
    rw [e1, e2] at this
    exact absurd this h
theorem lenSum_snoc (l : List Bt) (k : Nat) (x : Bt) (h : l[k]? = some x) : lenSum (l.take (k + 1)) = lenSum (l.take k) + x.length := by
  rw [take_snoc l k x h]
  simp [lenSum]
theorem lenSum_bound (l : List Bt) (b : Nat) (h : ∀ x ∈ l, x.length ≤ b) : lenSum l ≤ l.length * b := by
  induction l with
  | nil => simp [lenSum]
  | cons x r ih =>
    have h1 := h x (List.mem_cons_self ..)
    have h2 := ih fun y hy => h y (List.mem_cons_of_mem _ hy)
    simp only [lenSum, List.map_cons, List.sum_cons, List.length_cons, Nat.add_mul] at h2 ⊢
    omega
theorem okTags_bounds {l : List Bt} (h : okTags l = true) : l.length ≤ 16 ∧ ∀ x ∈ l, x.length ≤ 64 := by
  simp only [okTags, Bool.and_eq_true, decide_eq_true_eq] at h
  refine ⟨h.1.2, fun x hx => ?_⟩
  have := List.all_eq_true.1 h.1.1 x hx
  have h2 : 1 ≤ x.length ∧ x.length ≤ 64 := by simpa [tagOk] using this
  exact h2.2
end Go.Proofs.Ytnfehdcinmgnjaa
