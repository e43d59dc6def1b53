/- The plain laws of keys, segments, folders, tags and texts: no program in sight. -/
import Derived.Lib.SplitLaws
import Derived.Lib.Split
import Derived.Lib.Join
import Derived.Lib.Strings
namespace Go.Proofs.Ytnfehdcinmgnjaa
set_option linter.unusedVariables false
open Go

abbrev Bs := List UInt8

/-! ### Segments -/
def kCons (c : UInt8) : List Bs → List Bs
  | [] => [[c]]
  | x :: xs => (c :: x) :: xs
def kSegs : Bs → List Bs
  | [] => [[]]
  | c :: r => if c = 47 then [] :: kSegs r else kCons c (kSegs r)

theorem kSegs_ne (s : Bs) : kSegs s ≠ [] := by
  cases s with
  | nil => simp [kSegs]
  | cons c r =>
    unfold kSegs
    split
    · simp
    · unfold kCons
      split <;> simp

theorem index_nil47 : Lib.index [] [47] = -1 := rfl
theorem index_hit47 (r : Bs) : Lib.index (47 :: r) [47] = 0 := by simp [Lib.index]
theorem index_miss47 (c : UInt8) (r : Bs) (h : c ≠ 47) : Lib.index (c :: r) [47] = if Lib.index r [47] == -1 then -1 else Lib.index r [47] + 1 := by
  have h' : ¬ (47 : UInt8) = c := fun e => h e.symm
  rw [Lib.index]
  rw [if_neg (by simp [h'])]

theorem splitK_cons (c : UInt8) (h : c ≠ 47) (r : Bs) (k : Nat) : Lib.splitK [47] 0 k (c :: r) = kCons c (Lib.splitK [47] 0 k r) := by
  cases k with
  | zero => simp [Lib.splitK, kCons]
  | succ k =>
    rw [Lib.splitK, Lib.splitK, index_miss47 c r h]
    have hge := Lib.index_ge r [47]
    by_cases h1 : (Lib.index r [47] == -1) = true
    · simp [h1, kCons]
    · have h2 : ¬ Lib.index r [47] = -1 := by simpa using h1
      rw [if_neg h1, if_neg (by simp; omega), if_neg h1]
      have e : (Lib.index r [47] + 1).toNat = (Lib.index r [47]).toNat + 1 := by omega
      simp [e, kCons]

theorem split_eq (s : Bs) : Lib.split s [47] = kSegs s := by
  induction s with
  | nil => simp [Lib.split, Lib.count_one, Lib.splitK, kSegs]
  | cons c r ih =>
    by_cases h : c = 47
    · subst h
      have e : Lib.split (47 :: r) [47] = [] :: Lib.split r [47] := by
        unfold Lib.split
        rw [Lib.count_cons_eq, Nat.add_comm, Lib.splitK, index_hit47]
        simp
      rw [e, ih, kSegs, if_pos rfl]
    · have e : Lib.split (c :: r) [47] = kCons c (Lib.split r [47]) := by
        unfold Lib.split
        rw [Lib.count_cons_ne _ _ _ h]
        exact splitK_cons c h r _
      rw [e, ih, kSegs, if_neg h]

theorem kSegs_length (s : Bs) : (kSegs s).length = s.count 47 + 1 := by
  induction s with
  | nil => rfl
  | cons c r ih =>
    unfold kSegs
    split
    · rename_i h
      subst h
      simp [ih]
    · rename_i h
      rw [List.count_cons_of_ne h]
      rcases e : kSegs r with _ | ⟨x, xs⟩
      · exact absurd e (kSegs_ne r)
      · rw [e] at ih
        simpa [kCons] using ih

/-- What the reference's loop has, with the finished segments and the one it is in. -/
def kSegsFrom (done : List Bs) (cur : Bs) : Bs → List Bs
  | [] => done ++ [cur]
  | c :: r => if c = 47 then kSegsFrom (done ++ [cur]) [] r else kSegsFrom done (cur ++ [c]) r

theorem kSegsFrom_eq (s : Bs) : ∀ (done : List Bs) (cur : Bs), kSegsFrom done cur s = done ++ (match kSegs s with | [] => [cur] | x :: xs => (cur ++ x) :: xs) := by
  induction s with
  | nil => intro done cur; simp [kSegsFrom, kSegs]
  | cons c r ih =>
    intro done cur
    unfold kSegsFrom kSegs
    by_cases h : c = 47
    · rw [if_pos h, if_pos h, ih]
      rcases e : kSegs r with _ | ⟨x, xs⟩
      · exact absurd e (kSegs_ne r)
      · simp
    · rw [if_neg h, if_neg h, ih]
      rcases e : kSegs r with _ | ⟨x, xs⟩
      · exact absurd e (kSegs_ne r)
      · simp [kCons]

theorem kSegsFrom_start (s : Bs) : kSegsFrom [] [] s = kSegs s := by
  rw [kSegsFrom_eq]
  rcases e : kSegs s with _ | ⟨x, xs⟩
  · exact absurd e (kSegs_ne s)
  · simp

/-! ### Join -/
def kJoinB (l : List Bs) : Bs := Lib.join l [47]

theorem kJoinB_nil : kJoinB [] = [] := rfl
theorem kJoinB_one (x : Bs) : kJoinB [x] = x := by simp [kJoinB, Lib.join]
theorem kJoinB_cons (x y : Bs) (r : List Bs) : kJoinB (x :: y :: r) = x ++ 47 :: kJoinB (y :: r) := by
  simp [kJoinB, Lib.join, List.intercalate, List.intersperse]

theorem kJoinB_count (l : List Bs) (h : l ≠ []) : (kJoinB l).count 47 + 1 = l.length + (l.map (·.count 47)).sum := by
  induction l with
  | nil => exact absurd rfl h
  | cons x r ih =>
    cases r with
    | nil => rw [kJoinB_one]; simp; omega
    | cons y r =>
      rw [kJoinB_cons, List.count_append, List.count_cons_self]
      have := ih (by simp)
      simp only [List.length_cons, List.map_cons, List.sum_cons] at this ⊢
      omega

def kJoin (l : List Bs) : Bs × Int := if 1 ≤ (kJoinB l).length ∧ (kJoinB l).length ≤ 250 ∧ ((kJoinB l).count 47 : Int) = (l.length : Int) - 1 then (kJoinB l, 0) else ([], 2)
def kJoinR (l : List Bs) : Bs × Int := if l.any (fun x => decide ((kSegs x).length ≠ 1)) then ([], 2) else if l = [] ∨ ¬ (1 ≤ (kJoinB l).length ∧ (kJoinB l).length ≤ 250) then ([], 2) else (kJoinB l, 0)

theorem sum_zero (l : List Bs) : (l.map (·.count 47)).sum = 0 ↔ l.any (fun x => decide ((kSegs x).length ≠ 1)) = false := by
  induction l with
  | nil => simp
  | cons x r ih =>
    have := kSegs_length x
    simp only [List.map_cons, List.sum_cons, List.any_cons, Bool.or_eq_false_iff, decide_eq_false_iff_not]
    constructor
    · intro h; exact ⟨by omega, ih.1 (by omega)⟩
    · rintro ⟨h1, h2⟩; have := ih.2 h2; omega

theorem kJoin_eq (l : List Bs) : kJoin l = kJoinR l := by
  unfold kJoin kJoinR
  by_cases hl : l = []
  · subst hl; simp [kJoinB_nil]
  · have hc := kJoinB_count l hl
    rcases Bool.eq_false_or_eq_true (l.any (fun x => decide ((kSegs x).length ≠ 1))) with ha | ha
    · have hs : ¬ (l.map (·.count 47)).sum = 0 := fun e => by rw [(sum_zero l).1 e] at ha; cases ha
      rw [if_pos ha, if_neg (fun h => by have := h.2.2; omega)]
    · have hs := (sum_zero l).2 ha
      simp only [ha, Bool.false_eq_true, if_false]
      by_cases hv : 1 ≤ (kJoinB l).length ∧ (kJoinB l).length ≤ 250
      · rw [if_pos ⟨hv.1, hv.2, by omega⟩, if_neg (by simp [hl, hv])]
      · rw [if_neg (fun h => hv ⟨h.1, h.2.1⟩), if_pos (.inr hv)]

theorem kJoin_segs (s : Bs) : kJoinB (kSegs s) = s := by
  induction s with
  | nil => rfl
  | cons c r ih =>
    unfold kSegs
    rcases e : kSegs r with _ | ⟨x, xs⟩
    · exact absurd e (kSegs_ne r)
    · rw [e] at ih
      split
      · rename_i h
        rw [kJoinB_cons, ih, h]; rfl
      · unfold kCons
        cases xs with
        | nil => rw [kJoinB_one] at ih ⊢; rw [ih]
        | cons y ys => rw [kJoinB_cons] at ih ⊢; rw [List.cons_append, ih]

theorem kJoin_of_segs (s : Bs) (h : 1 ≤ s.length ∧ s.length ≤ 250) : kJoin (kSegs s) = (s, 0) := by
  unfold kJoin
  rw [kJoin_segs, kSegs_length, if_pos ⟨h.1, h.2, by omega⟩]

/-! ### Keys, tags, prefixes -/
def kValid (n : Nat) : Bool := decide (1 ≤ n ∧ n ≤ 250)
def kValidTag (n : Nat) : Bool := decide (1 ≤ n ∧ n ≤ 64)
def kValidPrefix (n : Nat) : Bool := decide (n ≤ 250)
def kHas (s p : Bs) : Bool := Lib.hasPrefix s p
def kCommon : Bs → Bs → Nat
  | a :: x, b :: y => if a = b then kCommon x y + 1 else 0
  | _, _ => 0

theorem kHas_iff (s p : Bs) : kHas s p = true ↔ p.length ≤ s.length ∧ s.take p.length = p := by
  unfold kHas Lib.hasPrefix
  rw [List.isPrefixOf_iff_prefix, List.prefix_iff_eq_take]
  constructor
  · intro h
    have := congrArg List.length h
    simp at this
    exact ⟨by omega, h.symm⟩
  · rintro ⟨_, h⟩; exact h.symm

theorem kCommon_le (a b : Bs) : kCommon a b ≤ a.length ∧ kCommon a b ≤ b.length := by
  induction a generalizing b with
  | nil => cases b <;> simp [kCommon]
  | cons x a ih =>
    cases b with
    | nil => simp [kCommon]
    | cons y b =>
      unfold kCommon
      have := ih b
      split <;> simp <;> omega

/-- The bytes are alike up to kCommon, and not there. -/
theorem kCommon_lt (a b : Bs) : ∀ i, i < kCommon a b → a[i]? = b[i]? := by
  induction a generalizing b with
  | nil => intro i h; cases b <;> simp [kCommon] at h
  | cons x a ih =>
    intro i h
    cases b with
    | nil => simp [kCommon] at h
    | cons y b =>
      unfold kCommon at h
      split at h
      · rename_i e
        subst e
        cases i with
        | zero => rfl
        | succ i => simpa using ih b i (by omega)
      · omega
theorem kCommon_at (a b : Bs) (h1 : kCommon a b < a.length) (h2 : kCommon a b < b.length) : a[kCommon a b]? ≠ b[kCommon a b]? := by
  induction a generalizing b with
  | nil => simp at h1
  | cons x a ih =>
    cases b with
    | nil => simp at h2
    | cons y b =>
      unfold kCommon at h1 h2 ⊢
      split at h1
      · rename_i e
        rw [if_pos e] at h2 ⊢
        simpa using ih b (by simpa using h1) (by simpa using h2)
      · rename_i e
        rw [if_neg e]
        simpa using e
theorem kCommon_eq (a b : Bs) (n : Nat) (h0 : n ≤ a.length) (h0' : n ≤ b.length) (h : ∀ i, i < n → a[i]? = b[i]?) (h' : n = a.length ∨ n = b.length ∨ a[n]? ≠ b[n]?) : kCommon a b = n := by
  have hl := kCommon_le a b
  rcases Nat.lt_trichotomy (kCommon a b) n with h1 | h1 | h1
  · exact absurd (h _ h1) (kCommon_at a b (by omega) (by omega))
  · exact h1
  · rcases h' with h' | h' | h'
    · omega
    · omega
    · exact absurd (kCommon_lt a b n h1) h'

theorem kJoinB_snoc (l : List Bs) (x : Bs) : kJoinB (l ++ [x]) = if l = [] then x else kJoinB l ++ 47 :: x := by
  induction l with
  | nil => simp [kJoinB_one]
  | cons y r ih =>
    cases r with
    | nil => simp [kJoinB_cons, kJoinB_one]
    | cons z r =>
      rw [List.cons_append, List.cons_append, kJoinB_cons, ← List.cons_append, ih]
      simp [kJoinB_cons]

theorem kJoinB_length (l : List Bs) : (kJoinB l).length ≤ (l.map (·.length)).sum + l.length := by
  induction l with
  | nil => simp [kJoinB_nil]
  | cons x r ih =>
    cases r with
    | nil => rw [kJoinB_one]; simp
    | cons y r =>
      rw [kJoinB_cons, List.length_append, List.length_cons]
      simp only [List.map_cons, List.sum_cons, List.length_cons] at ih ⊢
      omega

theorem sum_take_le (l : List Bs) (k : Nat) : ((l.take k).map (·.length)).sum ≤ (l.map (·.length)).sum := by
  induction l generalizing k with
  | nil => simp
  | cons x r ih =>
    cases k with
    | zero => simp
    | succ k => have := ih k; simp only [List.take_succ_cons, List.map_cons, List.sum_cons]; omega

/-- One of the segments has a slash. -/
def kBad (l : List Bs) : Bool := l.any (fun x => decide ((kSegs x).length ≠ 1))

theorem kBad_snoc (l : List Bs) (x : Bs) : kBad (l ++ [x]) = (kBad l || decide ((kSegs x).length ≠ 1)) := by
  simp [kBad]
theorem kBad_take (l : List Bs) (k : Nat) (h : kBad (l.take k) = true) : kBad l = true := by
  unfold kBad at h ⊢
  rw [List.any_eq_true] at h ⊢
  obtain ⟨x, hx, hp⟩ := h
  exact ⟨x, List.mem_of_mem_take hx, hp⟩

/-! ### Folders -/
/-- The folders that end among the first k bytes. -/
def kFold (s : Bs) : Nat → List Bs
  | 0 => []
  | k + 1 => if s[k]? = some 47 then kFold s k ++ [s.take (k + 1)] else kFold s k
def kFolders (s : Bs) : List Bs := kFold s s.length
theorem kFold_length (s : Bs) (k : Nat) : (kFold s k).length ≤ k := by
  induction k with
  | zero => simp [kFold]
  | succ k ih => unfold kFold; split <;> (try simp only [List.length_append, List.length_cons, List.length_nil]) <;> omega
end Go.Proofs.Ytnfehdcinmgnjaa
