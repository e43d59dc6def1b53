/- The plain laws of times, marks and their texts: no program in sight. -/
import Derived.Lib.ItoaNum
import Derived.Lib.ItoaWalk
import Derived.Lib.ParseIntBCases
namespace Go.Proofs.YtdkbcboajjilfaaDoor
open Go

def ckAdd (a b : Int) : Int := if 18446744073709551615 - a ≤ b then 18446744073709551615 else a + b
def ckEff (a b : Int) : Int := if a < b then b else a
def ckDue (d n : Int) : Bool := decide (d ≠ 18446744073709551615 ∧ d ≤ n)

/-- The mark: 0 dead, 1 fresh, 2 stale. -/
def ckMark (n d s g : Int) : Int := if ckDue d n then 0 else if ckDue s n then (if ckDue (ckAdd s g) n then 0 else 2) else 1

theorem ckDue_three (s n : Int) : (s = 18446744073709551615 ∧ ckDue s n = false) ∨ (¬ s = 18446744073709551615 ∧ s ≤ n ∧ ckDue s n = true) ∨ (¬ s = 18446744073709551615 ∧ n < s ∧ ckDue s n = false) := by
  by_cases hc : s = 18446744073709551615
  · exact .inl ⟨hc, by simp [ckDue, hc]⟩
  · by_cases hn : s ≤ n
    · exact .inr (.inl ⟨hc, hn, by simp [ckDue, hc, hn]⟩)
    · exact .inr (.inr ⟨hc, by omega, by simp [ckDue, hc, hn]⟩)

def ckEl (d s g : Int) : Nat → Int
  | 0 => d
  | 1 => s
  | _ => ckAdd s g
def ckStep (n d s g nx t : Int) : Int := if n < t then (if t < nx then (if ckMark t d s g = ckMark n d s g then nx else t) else nx) else nx
def ckNextTo (n d s g : Int) : Nat → Int
  | 0 => 18446744073709551615
  | k + 1 => ckStep n d s g (ckNextTo n d s g k) (ckEl d s g k)
def ckNext (n d s g : Int) : Int := ckNextTo n d s g 3

theorem end_cases {α : Type} (e : Lib.NumEnd α) : (∃ u, e = .ok u) ∨ e = Lib.NumEnd.syntax ∨ e = .range := by
  rcases e with u | _ | _
  · exact .inl ⟨u, rfl⟩
  · exact .inr (.inl rfl)
  · exact .inr (.inr rfl)

def ckNever : List UInt8 := [110, 101, 118, 101, 114]
def ckText (t : Int) : List UInt8 := if t = 18446744073709551615 then ckNever else Lib.decDigits t.toNat

theorem decDigits_le (u : Nat) (hu : u < 18446744073709551616) : (Lib.decDigits u).length ≤ 20 := by
  by_cases h : 1 ≤ u
  · have := Lib.numDigits_eq u h hu
    rw [Lib.decDigits_length]
    split at this <;> omega
  · obtain rfl : u = 0 := by omega
    rw [Lib.decDigits_one (by omega)]
    simp

theorem bs_append (a b : List UInt8) : (⟨a.toArray⟩ : ByteArray) ++ ⟨b.toArray⟩ = ⟨(a ++ b).toArray⟩ := by
  apply ByteArray.ext
  simp

/-- The time with a text, and whether there is one. -/
def ckParse (l : List UInt8) : Int × Bool :=
  if l = ckNever then (18446744073709551615, true)
  else match Lib.parseUintB 64 l with
    | .ok u => if ckText u = l then ((u : Int), true) else (0, false)
    | _ => (0, false)

/-- The error number: OK or ErrFormat. -/
def ckErr (b : Bool) : Int := if b then 0 else 6

theorem pm_nil (M acc : Nat) : Lib.parseUintM M acc [] = .ok acc := rfl
theorem pm_digit (acc : Nat) (c : UInt8) (r : List UInt8) (h1 : 48 ≤ c.toNat) (h2 : c.toNat ≤ 57) (h3 : acc ≤ (18446744073709551615 - (c.toNat - 48)) / 10) :
    Lib.parseUintM 18446744073709551615 acc (c :: r) = Lib.parseUintM 18446744073709551615 (acc * 10 + (c.toNat - 48)) r := by
  simp only [Lib.parseUintM]
  rw [if_pos ⟨h1, h2⟩, if_neg (by omega), if_neg (by omega)]
theorem pm_range (acc : Nat) (c : UInt8) (r : List UInt8) (h1 : 48 ≤ c.toNat) (h2 : c.toNat ≤ 57) (h3 : ¬ acc ≤ (18446744073709551615 - (c.toNat - 48)) / 10) :
    Lib.parseUintM 18446744073709551615 acc (c :: r) = .range := by
  simp only [Lib.parseUintM]
  rw [if_pos ⟨h1, h2⟩]
  split
  · rfl
  · rw [if_pos (by omega)]
theorem pm_syntax (M acc : Nat) (c : UInt8) (r : List UInt8) (h : ¬ (48 ≤ c.toNat ∧ c.toNat ≤ 57)) : Lib.parseUintM M acc (c :: r) = Lib.NumEnd.syntax := by
  simp only [Lib.parseUintM]
  rw [if_neg h]

theorem ckText_le (t : Int) (h0 : 0 ≤ t) (h1 : t ≤ 18446744073709551615) : (ckText t).length ≤ 20 := by
  unfold ckText
  split
  · decide
  · exact decDigits_le _ (by omega)
theorem ckText_pos (t : Int) : ckText t ≠ [] := by
  unfold ckText
  split
  · decide
  · intro h
    have := congrArg List.length h
    unfold Lib.decDigits at this
    split at this <;> simp at this

/-- What the reference's loop finds of the bytes from k on, with acc so far. -/
def ckFrom (l : List UInt8) (acc : Nat) (r : List UInt8) : Int × Bool :=
  match Lib.parseUintM 18446744073709551615 acc r with
  | .ok u => if ckText u = l then ((u : Int), true) else (0, false)
  | _ => (0, false)

theorem ckParse_from (l : List UInt8) (h : ¬ l = ckNever) (h1 : ¬ l = []) : ckParse l = ckFrom l 0 l := by
  unfold ckParse ckFrom Lib.parseUintB
  have e : (2 : Nat) ^ 64 - 1 = 18446744073709551615 := by decide
  rw [if_neg h, if_neg h1, e]
theorem ckParse_nil : ckParse [] = (0, false) := by decide
theorem ckParse_long (l : List UInt8) (h : ¬ l.length ≤ 20) : ckParse l = (0, false) := by
  unfold ckParse
  rw [if_neg (by intro e; subst e; exact h (by decide))]
  rcases end_cases (Lib.parseUintB 64 l) with ⟨u, hp⟩ | hp | hp
  case inl =>
    have hu : u ≤ 18446744073709551615 := Lib.parseUintB_le hp
    have := ckText_le u (by omega) (by omega)
    rw [hp]
    simp only
    rw [if_neg (by intro e; rw [e] at this; exact h this)]
  case inr.inl => rw [hp]
  case inr.inr => rw [hp]

def ckWord (m : Int) : List UInt8 := if m = 0 then [100, 101, 97, 100] else if m = 1 then [102, 114, 101, 115, 104] else if m = 2 then [115, 116, 97, 108, 101] else []

theorem ckWord_cases (m : Int) : (m = 0 ∧ ckWord m = [100, 101, 97, 100]) ∨ (m = 1 ∧ ckWord m = [102, 114, 101, 115, 104]) ∨ (m = 2 ∧ ckWord m = [115, 116, 97, 108, 101]) ∨ ((m < 0 ∨ 2 < m) ∧ ckWord m = []) := by
  unfold ckWord
  by_cases h0 : m = 0
  · exact .inl ⟨h0, by rw [if_pos h0]⟩
  · by_cases h1 : m = 1
    · exact .inr (.inl ⟨h1, by rw [if_neg h0, if_pos h1]⟩)
    · by_cases h2 : m = 2
      · exact .inr (.inr (.inl ⟨h2, by rw [if_neg h0, if_neg h1, if_pos h2]⟩))
      · exact .inr (.inr (.inr ⟨by omega, by rw [if_neg h0, if_neg h1, if_neg h2]⟩))

def psB (l : List UInt8) (t e : Int) : Bool := decide ((ckParse l).1 = t ∧ ckErr (ckParse l).2 = e)

theorem ckDue_iff (x t : Int) : ckDue x t = true ↔ (x ≠ 18446744073709551615 ∧ x ≤ t) := by simp [ckDue]

theorem ckAdd_ge (s g : Int) (hs' : s ≤ 18446744073709551615) (hg : 0 ≤ g) : s ≤ ckAdd s g ∧ ckAdd s g ≤ 18446744073709551615 := by
  unfold ckAdd
  split <;> omega

theorem ckDue_congr {x a b : Int} (h : x = 18446744073709551615 ∨ (x ≤ a ↔ x ≤ b)) : ckDue x a = ckDue x b := by
  unfold ckDue
  rcases h with h | h
  · simp [h]
  · simp [h]

theorem ckMark_const {n t d s g : Int} (h : n ≤ t) (h1 : d = 18446744073709551615 ∨ d ≤ n ∨ t < d) (h2 : s = 18446744073709551615 ∨ s ≤ n ∨ t < s)
    (h3 : ckAdd s g = 18446744073709551615 ∨ ckAdd s g ≤ n ∨ t < ckAdd s g) : ckMark t d s g = ckMark n d s g := by
  unfold ckMark
  rw [ckDue_congr (x := d) (a := t) (b := n) (by omega), ckDue_congr (x := s) (a := t) (b := n) (by omega), ckDue_congr (x := ckAdd s g) (a := t) (b := n) (by omega)]

theorem ckStep_le (n d s g nx t : Int) : ckStep n d s g nx t ≤ nx := by
  unfold ckStep
  repeat' split
  all_goals omega
theorem ckStep_hit (n d s g nx t : Int) (h : n < t) (hm : ckMark t d s g ≠ ckMark n d s g) : ckStep n d s g nx t ≤ t := by
  unfold ckStep
  rw [if_pos h]
  split
  · first | omega | (rw [if_neg hm]; omega)
  · omega
theorem ckStep_or (n d s g nx t : Int) : ckStep n d s g nx t = nx ∨ (ckStep n d s g nx t = t ∧ n < t ∧ t < nx ∧ ckMark t d s g ≠ ckMark n d s g) := by
  unfold ckStep
  split
  · split
    · split
      · exact .inl rfl
      · exact .inr ⟨rfl, by assumption, by assumption, by assumption⟩
    · exact .inl rfl
  · exact .inl rfl

/-- What the time of the next change is: never, or a time after n at which the mark is another one; and no candidate before it serves. -/
theorem ckNext_or (n d s g : Int) : ckNext n d s g = 18446744073709551615 ∨ (n < ckNext n d s g ∧ ckNext n d s g < 18446744073709551615 ∧ ckMark (ckNext n d s g) d s g ≠ ckMark n d s g) := by
  have key : ∀ k, ckNextTo n d s g k = 18446744073709551615 ∨ (n < ckNextTo n d s g k ∧ ckNextTo n d s g k < 18446744073709551615 ∧ ckMark (ckNextTo n d s g k) d s g ≠ ckMark n d s g) := by
    intro k
    induction k with
    | zero => exact .inl rfl
    | succ k ih =>
      have e : ckNextTo n d s g (k + 1) = ckStep n d s g (ckNextTo n d s g k) (ckEl d s g k) := rfl
      rw [e]
      rcases ckStep_or n d s g (ckNextTo n d s g k) (ckEl d s g k) with h | ⟨h1, h2, h3, h4⟩
      · rw [h]; exact ih
      · rw [h1]
        refine .inr ⟨h2, ?_, h4⟩
        rcases ih with ih | ih <;> omega
  exact key 3

theorem ckNext_le (n d s g x : Int) (hx : x = d ∨ x = s ∨ x = ckAdd s g) (h : n < x) (hm : ckMark x d s g ≠ ckMark n d s g) : ckNext n d s g ≤ x := by
  have e1 : ckNextTo n d s g 1 = ckStep n d s g (ckNextTo n d s g 0) d := rfl
  have e2 : ckNextTo n d s g 2 = ckStep n d s g (ckNextTo n d s g 1) s := rfl
  have e3 : ckNextTo n d s g 3 = ckStep n d s g (ckNextTo n d s g 2) (ckAdd s g) := rfl
  have l2 := ckStep_le n d s g (ckNextTo n d s g 1) s
  have l3 := ckStep_le n d s g (ckNextTo n d s g 2) (ckAdd s g)
  rw [← e2] at l2
  rw [← e3] at l3
  show ckNextTo n d s g 3 ≤ x
  rcases hx with rfl | rfl | rfl
  · have := ckStep_hit n x s g (ckNextTo n x s g 0) x h hm
    rw [← e1] at this
    omega
  · have := ckStep_hit n d x g (ckNextTo n d x g 1) x h hm
    rw [← e2] at this
    omega
  · have := ckStep_hit n d s g (ckNextTo n d s g 2) _ h hm
    rw [← e3] at this
    exact this

/-- Between n and the next change the mark stays the same. -/
theorem ckNext_same (n d s g t : Int) (h : n ≤ t) (hx : t < ckNext n d s g) : ckMark t d s g = ckMark n d s g := by
  by_cases hm : ckMark t d s g = ckMark n d s g
  · exact hm
  · exfalso
    have hno : ∀ x, (x = d ∨ x = s ∨ x = ckAdd s g) → n < x → x ≤ t → x ≠ 18446744073709551615 → ¬ ckMark t d s g = ckMark x d s g := by
      intro x hx1 h1 h2 _ e
      have := ckNext_le n d s g x hx1 h1 (by rw [← e]; exact hm)
      omega
    generalize hc : ckAdd s g = c at *
    -- the greatest candidate after n, up to t
    have hmax : ∃ x, (x = d ∨ x = s ∨ x = c) ∧ n < x ∧ x ≤ t ∧ x ≠ 18446744073709551615 ∧ (d = 18446744073709551615 ∨ d ≤ x ∨ t < d) ∧ (s = 18446744073709551615 ∨ s ≤ x ∨ t < s) ∧ (c = 18446744073709551615 ∨ c ≤ x ∨ t < c) := by
      have hsome : (n < d ∧ d ≤ t ∧ d ≠ 18446744073709551615) ∨ (n < s ∧ s ≤ t ∧ s ≠ 18446744073709551615) ∨ (n < c ∧ c ≤ t ∧ c ≠ 18446744073709551615) := by
        rcases Classical.em ((n < d ∧ d ≤ t ∧ d ≠ 18446744073709551615) ∨ (n < s ∧ s ≤ t ∧ s ≠ 18446744073709551615) ∨ (n < c ∧ c ≤ t ∧ c ≠ 18446744073709551615)) with h0 | h0
        · exact h0
        · exact absurd (ckMark_const h (by omega) (by omega) (by rw [hc]; omega)) hm
      by_cases hd : (n < d ∧ d ≤ t ∧ d ≠ 18446744073709551615) ∧ (s = 18446744073709551615 ∨ s ≤ d ∨ t < s) ∧ (c = 18446744073709551615 ∨ c ≤ d ∨ t < c)
      · exact ⟨d, .inl rfl, by omega, by omega, by omega, by omega, by omega, by omega⟩
      · by_cases hs : (n < s ∧ s ≤ t ∧ s ≠ 18446744073709551615) ∧ (d = 18446744073709551615 ∨ d ≤ s ∨ t < d) ∧ (c = 18446744073709551615 ∨ c ≤ s ∨ t < c)
        · exact ⟨s, .inr (.inl rfl), by omega, by omega, by omega, by omega, by omega, by omega⟩
        · exact ⟨c, .inr (.inr rfl), by omega, by omega, by omega, by omega, by omega, by omega⟩
    obtain ⟨x, hx1, hx2, hx3, hx4, m1, m2, m3⟩ := hmax
    exact hno x hx1 hx2 hx3 hx4 (ckMark_const (by omega) m1 m2 (by rw [hc]; exact m3))
end Go.Proofs.YtdkbcboajjilfaaDoor
