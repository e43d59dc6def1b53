/- The table with the greatest number of names: what its list is. -/
import Derived.Test.YtanmihifkjhaaaaIntQ
namespace Go.Proofs.Ytanmihifkjhaaaa

def nmF (i : Nat) : List UInt8 := [UInt8.ofNat (i / 256), UInt8.ofNat (i % 256)]
def fullL (k : Nat) : Nms := (List.range k).map (fun i => (nmF i, 1))
theorem fullL_len (k : Nat) : (fullL k).length = k := by simp [fullL]
theorem fullL_at {k i : Nat} (h : i < k) : nmAt (fullL k) i = (nmF i, 1) := by
  apply nmAt_of
  unfold fullL
  rw [List.getElem?_map, List.getElem?_range h]
  rfl
theorem fullL_live (k i : Nat) : liveB (fullL k) i = decide (i < k) := by
  by_cases h : i < k
  · unfold liveB
    rw [fullL_at h]
    simp [h]
  · unfold liveB
    rw [nmAt_out (by rw [fullL_len]; omega)]
    simp [h]
theorem nmF_inj {i j : Nat} (hi : i < 65536) (hj : j < 65536) (h : nmF i = nmF j) : i = j := by
  unfold nmF at h
  injection h with h1 h2
  injection h2 with h2 _
  have e1 := congrArg UInt8.toNat h1
  have e2 := congrArg UInt8.toNat h2
  simp only [UInt8.toNat_ofNat'] at e1 e2
  omega
theorem fullL_dist {k : Nat} (hk : k ≤ 65536) : Distinct (fullL k) := by
  intro i j hi hj e
  rw [fullL_live, decide_eq_true_eq] at hi hj
  rw [fullL_at hi, fullL_at hj] at e
  exact nmF_inj (by omega) (by omega) e
theorem lowest_is {l : Nms} {n : Nat} (h1 : liveB l n = false) (h2 : ∀ m, m < n → liveB l m = true) : lowest l = n := by
  rcases Nat.lt_trichotomy (lowest l) n with h | h | h
  · have := h2 _ h; rw [lowest_dead] at this; cases this
  · exact h
  · have := lowest_min l h; rw [h1] at this; cases this
theorem fullL_lowest (k : Nat) : lowest (fullL k) = k := lowest_is (by rw [fullL_live]; simp) (fun m hm => by rw [fullL_live]; simpa using hm)
theorem fullL_liveN (k : Nat) : liveN (fullL k) = k := by
  unfold liveN
  rw [List.filter_eq_self.2, fullL_len]
  intro x hx
  unfold fullL at hx
  obtain ⟨i, _, rfl⟩ := List.mem_map.1 hx
  rfl
theorem validF (k : Nat) : validB (nmF k) = true := rfl
theorem fullL_add {k : Nat} {most : Int} (hk : (k : Int) < most) (hm : most ≤ 65536) : addM most (fullL k) (nmF k) = (fullL (k + 1), (k : Int), 0) := by
  have hf : findN (fullL k) (nmF k) = none := by
    cases h : findN (fullL k) (nmF k) with
    | none => rfl
    | some n =>
      obtain ⟨h1, h2⟩ := findN_some h
      rw [fullL_live, decide_eq_true_eq] at h1
      rw [fullL_at h1] at h2
      have := nmF_inj (by omega) (by omega) h2
      omega
  unfold addM
  rw [if_pos (validF k), hf]
  simp only [fullL_liveN, fullL_lowest]
  rw [if_neg (by omega)]
  unfold putL
  rw [if_neg (by rw [fullL_len]; omega)]
  unfold fullL
  rw [List.range_succ, List.map_append]
  rfl
def moreT : List UInt8 := [109, 111, 114, 101]
def full1 (k : Nat) : Nms := (fullL k).set 7 (nmF 7, 2)
def full2 (k : Nat) : Nms := (full1 k).set 9 ([], 0)
def full3 (k : Nat) : Nms := (full2 k).set 9 (moreT, 1)
theorem nmF_more (i : Nat) : nmF i ≠ moreT := by
  intro h
  unfold nmF moreT at h
  injection h with _ h
  injection h with _ h
  cases h
theorem full_more {k : Nat} : addM k (fullL k) moreT = (fullL k, 0, 7) := by
  have hf : findN (fullL k) moreT = none := by
    cases h : findN (fullL k) moreT with
    | none => rfl
    | some n =>
      obtain ⟨h1, h2⟩ := findN_some h
      rw [fullL_live, decide_eq_true_eq] at h1
      rw [fullL_at h1] at h2
      exact absurd h2 (nmF_more n)
  unfold addM
  rw [if_pos (show validB moreT = true from rfl), hf]
  simp only [fullL_liveN]
  rw [if_pos (Int.le_refl _)]
theorem full_seven {k : Nat} (h0 : 10 < k) (h1 : k ≤ 65536) : addM k (fullL k) [0, 7] = (full1 k, 7, 0) := by
  have hf : findN (fullL k) [0, 7] = some 7 := findN_of (fullL_dist h1) (by rw [fullL_live]; simp; omega) (by rw [fullL_at (by omega)]; rfl)
  unfold addM
  rw [if_pos (show validB [0, 7] = true from rfl), hf]
  simp only [fullL_at (show 7 < k by omega)]
  rfl
theorem full1_live {k : Nat} (h0 : 10 < k) (m : Nat) : liveB (full1 k) m = decide (m < k) := by
  unfold full1
  rw [liveB_set (by rw [fullL_len]; omega), fullL_live]
  split
  · rename_i h; subst h; simp [liveX]; omega
  · rfl
theorem full1_at {k : Nat} (h0 : 10 < k) : nmAt (full1 k) 9 = (nmF 9, 1) := by
  unfold full1
  rw [nmAt_set (by rw [fullL_len]; omega), if_neg (by decide), fullL_at (by omega)]
theorem full1_len (k : Nat) : (full1 k).length = k := by unfold full1; rw [List.length_set, fullL_len]
theorem full_free {k : Nat} (h0 : 10 < k) : relM (full1 k) 9 = (full2 k, true, 0) := by
  unfold relM hasM
  rw [if_pos (by rw [show (9 : Int).toNat = 9 from rfl, full1_live h0]; simp; omega)]
  rw [show (9 : Int).toNat = 9 from rfl, full1_at h0]
  rfl
theorem full2_live {k : Nat} (h0 : 10 < k) (m : Nat) : liveB (full2 k) m = (decide (m < k) && decide (m ≠ 9)) := by
  unfold full2
  rw [liveB_set (by rw [full1_len]; omega), full1_live h0]
  split
  · rename_i h; subst h; simp [liveX]
  · rename_i h; simp [h]
theorem full2_liveN {k : Nat} (h0 : 10 < k) : liveN (full2 k) + 1 = k := by
  have e1 := liveN_set (l := full1 k) (n := 9) (by rw [full1_len]; omega) ([], 0)
  have e0 := liveN_set (l := fullL k) (n := 7) (by rw [fullL_len]; omega) (nmF 7, 2)
  rw [full1_live h0, if_pos (by simp; omega), if_neg (by decide)] at e1
  rw [fullL_live, if_pos (by simp; omega), if_pos (by rfl), fullL_liveN] at e0
  change liveN (full1 k) + 1 = _ at e0
  change liveN (full2 k) + 1 = _ at e1
  omega
theorem full_again {k : Nat} (h0 : 10 < k) : addM k (full2 k) moreT = (full3 k, 9, 0) := by
  have hat : ∀ n, n < k → n ≠ 9 → (nmAt (full2 k) n).1 = nmF n := fun n hn h9 => by
    unfold full2 full1
    rw [nmAt_set (by rw [List.length_set, fullL_len]; omega), if_neg h9, nmAt_set (by rw [fullL_len]; omega)]
    split
    · rename_i h; subst h; rfl
    · rw [fullL_at hn]
  have hf : findN (full2 k) moreT = none := by
    cases h : findN (full2 k) moreT with
    | none => rfl
    | some n =>
      obtain ⟨h1, h2⟩ := findN_some h
      rw [full2_live h0] at h1
      simp only [Bool.and_eq_true, decide_eq_true_eq] at h1
      rw [hat n h1.1 h1.2] at h2
      exact absurd h2 (nmF_more n)
  have hl : lowest (full2 k) = 9 := lowest_is (by rw [full2_live h0]; simp) (fun m hm => by rw [full2_live h0]; simp; omega)
  have hn := full2_liveN h0
  unfold addM
  rw [if_pos (show validB moreT = true from rfl), hf]
  simp only [hl]
  rw [if_neg (by omega)]
  unfold putL
  rw [if_pos (by unfold full2; rw [List.length_set, full1_len]; omega)]
  rfl
theorem full3_liveN {k : Nat} (h0 : 10 < k) : liveN (full3 k) = k := by
  have e1 := liveN_set (l := full2 k) (n := 9) (by unfold full2; rw [List.length_set, full1_len]; omega) (moreT, 1)
  rw [full2_live h0, if_neg (by simp), if_pos (by rfl)] at e1
  have := full2_liveN h0
  change liveN (full3 k) + 0 = _ at e1
  omega
end Go.Proofs.Ytanmihifkjhaaaa
