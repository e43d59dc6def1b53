/- The plain laws of tags: the different ones of some strings, in order. No program in sight. -/
import Derived.Sort.KeysCollected
import Derived.Maps.OwnSet
namespace Go.Proofs.YtfpkeinknhijaaaGreat
set_option linter.unusedVariables false
open Go Go.Maps Go.Sort

abbrev Bt := List UInt8

/-- A string is put into a list in order, unless it is there. -/
def kIns (x : Bt) : List Bt → List Bt
  | [] => [x]
  | y :: r => if y < x then y :: kIns x r else if y = x then y :: r else x :: y :: r
def kUniq (l : List Bt) : List Bt := l.foldl (fun acc x => kIns x acc) []

theorem kUniq_snoc (l : List Bt) (x : Bt) : kUniq (l ++ [x]) = kIns x (kUniq l) := by simp [kUniq, List.foldl_append]

theorem bt_trich {x y : Bt} (h1 : ¬ x < y) (h2 : ¬ x = y) : y < x :=
  Classical.byContradiction fun h3 => h2 (List.le_antisymm (List.not_lt.1 h3) (List.not_lt.1 h1))

theorem kIns_mem (x z : Bt) (l : List Bt) : z ∈ kIns x l ↔ z = x ∨ z ∈ l := by
  induction l with
  | nil => simp [kIns]
  | cons y r ih =>
    unfold kIns
    split
    · simp [ih]; constructor <;> (intro h; rcases h with h | h | h <;> simp [h])
    · split
      · rename_i h; subst h; simp
      · simp

theorem kIns_sorted (x : Bt) (l : List Bt) (h : l.Pairwise (· < ·)) : (kIns x l).Pairwise (· < ·) := by
  induction l with
  | nil => simp [kIns]
  | cons y r ih =>
    rw [List.pairwise_cons] at h
    unfold kIns
    split
    · rename_i hlt
      rw [List.pairwise_cons]
      refine ⟨fun z hz => ?_, ih h.2⟩
      rcases (kIns_mem x z r).1 hz with rfl | hz
      · exact hlt
      · exact h.1 z hz
    · split
      · exact List.pairwise_cons.2 h
      · rename_i h1 h2
        have h3 := bt_trich h1 h2
        rw [List.pairwise_cons]
        refine ⟨fun z hz => ?_, List.pairwise_cons.2 h⟩
        rcases List.mem_cons.1 hz with rfl | hz
        · exact h3
        · exact List.lt_trans h3 (h.1 z hz)

theorem kUniq_sorted (l : List Bt) : (kUniq l).Pairwise (· < ·) := by
  suffices h : ∀ acc : List Bt, acc.Pairwise (· < ·) → (l.foldl (fun acc x => kIns x acc) acc).Pairwise (· < ·) from h [] List.Pairwise.nil
  induction l with
  | nil => intro acc h; exact h
  | cons x r ih => intro acc h; exact ih _ (kIns_sorted x acc h)

theorem kUniq_mem (l : List Bt) (z : Bt) : z ∈ kUniq l ↔ z ∈ l := by
  suffices h : ∀ acc : List Bt, z ∈ l.foldl (fun acc x => kIns x acc) acc ↔ z ∈ acc ∨ z ∈ l by simpa [kUniq] using h []
  induction l with
  | nil => intro acc; simp
  | cons x r ih =>
    intro acc
    rw [List.foldl_cons, ih, kIns_mem]
    simp only [List.mem_cons]
    constructor
    · rintro ((h | h) | h) <;> simp [h]
    · rintro (h | h | h) <;> simp [h]

theorem kUniq_nodup (l : List Bt) : (kUniq l).Nodup :=
  (kUniq_sorted l).imp fun h e => by subst e; exact List.lt_irrefl _ h

/-- What the map of those that were seen reads as. -/
def seenOf (l : List Bt) : DataW Unit := setOf (.agg []) (l.map Lit.string)

theorem seenOf_nil : seenOf [] = .map [] := rfl
theorem seenOf_snoc (l : List Bt) (x : Bt) : seenOf (l ++ [x]) = (seenOf l).put (.string x) (.agg []) := by
  rw [seenOf, List.map_append]
  exact setOf_snoc _ _ _

theorem keyLits (l : List Bt) : ∀ x ∈ l.map Lit.string, WideAt.IsKeyLit x := by
  intro x hx
  obtain ⟨b, _, rfl⟩ := List.mem_map.1 hx
  trivial

theorem seenOf_has (l : List Bt) (x : Bt) : has (seenOf l) (.string x) = true ↔ x ∈ l := by
  rw [seenOf, has_setOf _ _ _ (keyLits l), List.any_map, List.any_eq_true]
  constructor
  · rintro ⟨y, hy, h⟩
    have : y = x := by simpa [Lit.sameKey] using h
    exact this ▸ hy
  · intro h
    exact ⟨x, h, by simp [Lit.sameKey]⟩

theorem seenOf_map (l : List Bt) : ∃ es, seenOf l = .map es ∧ es.Pairwise (fun p q => p.1 ≠ q.1) := tidy_setOf _ _ (keyLits l)

theorem seenOf_keys (l : List Bt) (es : List (Lit × DataW Unit)) (h : seenOf l = .map es) : ∀ p ∈ es, ∃ x, p.1 = .string x := by
  suffices hh : ∀ (l : List Bt) (D : DataW Unit), (∃ es0, D = .map es0 ∧ ∀ p ∈ es0, ∃ x, p.1 = Lit.string x) → ∃ es1, (l.map Lit.string).foldl (fun m x => m.put x (.agg [])) D = .map es1 ∧ ∀ p ∈ es1, ∃ x, p.1 = Lit.string x by
    obtain ⟨es1, e1, h1⟩ := hh l (.map []) ⟨[], rfl, by simp⟩
    have e2 : seenOf l = .map es1 := e1
    rw [h] at e2
    cases e2
    exact h1
  intro l
  induction l with
  | nil => intro D h; exact h
  | cons x r ih =>
    rintro D ⟨es0, rfl, h0⟩
    rw [List.map_cons, List.foldl_cons]
    apply ih
    refine ⟨_, rfl, ?_⟩
    intro p hp
    have hm : ∀ (z : Lit × DataW Unit) (es : List (Lit × DataW Unit)), ∀ q ∈ DataW.insert z es, q = z ∨ q ∈ es := by
      intro z es
      induction es with
      | nil => intro q hq; simp [DataW.insert] at hq; exact .inl hq
      | cons a r ih =>
        intro q hq
        unfold DataW.insert at hq
        split at hq
        · rcases List.mem_cons.1 hq with h | h
          · exact .inl h
          · exact .inr h
        · rcases List.mem_cons.1 hq with h | h
          · exact .inr (by simp [h])
          · rcases ih q h with h | h
            · exact .inl h
            · exact .inr (by simp [h])
    rcases hm _ _ p hp with h | h
    · exact ⟨x, by rw [h]⟩
    · exact h0 p (List.mem_filter.1 h).1

theorem uniq_perm (l : List Bt) : (kUniq l).Perm (strKeys (seenOf l)) := by
  obtain ⟨es, he, hp⟩ := seenOf_map l
  have := perm_strKeys hp (seenOf_keys l es he) (kUniq_nodup l) (fun x => by rw [kUniq_mem, ← he, seenOf_has])
  rw [he]
  exact this

theorem uniq_sort (l : List Bt) : (kUniq l).mergeSort leB = kUniq l := by
  apply List.mergeSort_of_pairwise
  exact (kUniq_sorted l).imp fun h => by simpa [leB] using List.le_of_lt h

/-- What a range over the map has collected, sorted. -/
theorem collected_sort (l ss : List Bt) (h : ss.Perm (strKeys (seenOf l))) : ss.mergeSort leB = kUniq l := by
  rw [mergeSort_of_perm (h.trans (uniq_perm l).symm), uniq_sort]

theorem seenOf_size (l : List Bt) : Maps.size (seenOf l) = (kUniq l).length := by
  obtain ⟨es, he, hp⟩ := seenOf_map l
  have := (uniq_perm l).length_eq
  rw [this, he]
  simp [Maps.size, strKeys]

/-! ### The tags of a list, and the error -/
def tagOk (x : Bt) : Bool := decide (1 ≤ x.length ∧ x.length ≤ 64)
def kTags (l : List Bt) : List Bt × Int := if l.all tagOk then (if (kUniq l).length ≤ 16 then (kUniq l, 0) else ([], 5)) else ([], 2)

theorem kTags_bad (l : List Bt) (k : Nat) (x : Bt) (h : l[k]? = some x) (hx : tagOk x = false) : kTags l = ([], 2) := by
  unfold kTags
  rw [if_neg]
  rw [List.all_eq_true]
  intro h2
  have := h2 x (List.mem_of_getElem? h)
  rw [hx] at this
  cases this
theorem kTags_fine (l : List Bt) (h : l.all tagOk = true) : kTags l = if (kUniq l).length ≤ 16 then (kUniq l, 0) else ([], 5) := by
  rw [kTags, if_pos h]
theorem all_snoc (l : List Bt) (k : Nat) (x : Bt) (hx : l[k]? = some x) (h : (l.take k).all tagOk = true) (h2 : tagOk x = true) : (l.take (k + 1)).all tagOk = true := by
  rw [List.take_add_one, hx, List.all_append, h]
  simp [h2]
theorem take_snoc {α : Type} (l : List α) (k : Nat) (x : α) (hx : l[k]? = some x) : l.take (k + 1) = l.take k ++ [x] := by
  rw [List.take_add_one, hx]; rfl
theorem kIns_length (x : Bt) (l : List Bt) : (kIns x l).length ≤ l.length + 1 := by
  induction l with
  | nil => simp [kIns]
  | cons y r ih =>
    unfold kIns
    split
    · simp only [List.length_cons]; omega
    · split <;> simp only [List.length_cons] <;> omega
theorem kUniq_length (l : List Bt) : (kUniq l).length ≤ l.length := by
  suffices h : ∀ acc : List Bt, (l.foldl (fun acc x => kIns x acc) acc).length ≤ acc.length + l.length by simpa [kUniq] using h []
  induction l with
  | nil => intro acc; simp
  | cons x r ih =>
    intro acc
    have := ih (kIns x acc)
    have := kIns_length x acc
    simp only [List.foldl_cons, List.length_cons]
    omega
end Go.Proofs.YtfpkeinknhijaaaGreat
