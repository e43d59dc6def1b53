/- Counts as plain numbers: no program in sight. -/
namespace Go.Proofs.YtjiefmihodfgpaaDoor

def top64 : Int := 18446744073709551615
def isU (n : Int) : Prop := 0 ≤ n ∧ n ≤ 18446744073709551615
def plus64 (a b : Int) : Int := if a + b ≤ 18446744073709551615 then a + b else 18446744073709551615
theorem plus64_is {a b : Int} (ha : isU a) (hb : isU b) : isU (plus64 a b) := by
  obtain ⟨h1, h2⟩ := ha
  obtain ⟨h3, h4⟩ := hb
  unfold plus64 isU
  split <;> omega
theorem plus64_min {a b : Int} (ha : isU a) (hb : isU b) : a + min b (18446744073709551615 - a) = plus64 a b := by
  obtain ⟨h1, h2⟩ := ha
  obtain ⟨h3, h4⟩ := hb
  unfold plus64
  rw [Int.min_def]
  split <;> split <;> omega
/-- A list of counts that a place is raised in. -/
def raiseL (l : List Int) (i : Nat) (n : Int) : List Int := l.set i (plus64 (l.getD i 0) n)
theorem raiseL_len (l : List Int) (i : Nat) (n : Int) : (raiseL l i n).length = l.length := by simp [raiseL]
theorem getD_is {l : List Int} (h : ∀ x ∈ l, isU x) (i : Nat) : isU (l.getD i 0) := by
  rw [List.getD_eq_getElem?_getD]
  cases hx : l[i]? with
  | none => exact ⟨by simp, by simp⟩
  | some x => exact h x (List.mem_of_getElem? hx)
theorem raiseL_is {l : List Int} (h : ∀ x ∈ l, isU x) (i : Nat) {n : Int} (hn : isU n) : ∀ x ∈ raiseL l i n, isU x := by
  intro x hx
  rcases List.mem_or_eq_of_mem_set hx with hx | rfl
  · exact h x hx
  · exact plus64_is (getD_is h i) hn
/-- The greatest common divisor of two numbers. -/
def gcdI (a b : Int) : Int := (Nat.gcd a.toNat b.toNat : Int)
theorem gcdI_zero {a : Int} (h : 0 ≤ a) : gcdI a 0 = a := by
  unfold gcdI
  simp
  omega
theorem gcdI_step {a b : Int} (ha : 0 ≤ a) (hb : 0 < b) : gcdI b (a % b) = gcdI a b := by
  unfold gcdI
  obtain ⟨x, rfl⟩ := Int.eq_ofNat_of_zero_le ha
  obtain ⟨y, rfl⟩ := Int.eq_ofNat_of_zero_le (Int.le_of_lt hb)
  have e : ((x : Int) % (y : Int)).toNat = x % y := by
    rw [← Int.natCast_emod, Int.toNat_natCast]
  rw [e, Int.toNat_natCast, Int.toNat_natCast, Nat.gcd_comm x y]
  congr 1
  rw [Nat.gcd_comm y (x % y), Nat.gcd_rec y x]
theorem gcdI_comm (a b : Int) : gcdI a b = gcdI b a := by unfold gcdI; rw [Nat.gcd_comm]
theorem gcdI_pos {a b : Int} (hb : 0 < b) : 0 < gcdI a b := by
  unfold gcdI
  have : 0 < Nat.gcd a.toNat b.toNat := Nat.gcd_pos_of_pos_right _ (by omega)
  omega
theorem gcdI_le {a b : Int} (hb : 0 < b) : gcdI a b ≤ b := by
  unfold gcdI
  have : Nat.gcd a.toNat b.toNat ≤ b.toNat := Nat.gcd_le_right _ (by omega)
  omega
end Go.Proofs.YtjiefmihodfgpaaDoor
