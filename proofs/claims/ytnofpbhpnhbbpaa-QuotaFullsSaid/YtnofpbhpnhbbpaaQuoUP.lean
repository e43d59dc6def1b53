/- As many clients as there may be: plain law. -/
import Derived.Test.YtnofpbhpnhbbpaaQuoHP
namespace Go.Proofs.Ytnofpbhpnhbbpaa
set_option linter.unusedVariables false
open Go.Sort

def nmQ (i : Nat) : List UInt8 := [UInt8.ofNat (97 + i / 100), UInt8.ofNat (48 + i / 10 % 10), UInt8.ofNat (48 + i % 10)]
theorem ofNat_inj {a b : Nat} (ha : a < 256) (hb : b < 256) (h : UInt8.ofNat a = UInt8.ofNat b) : a = b := by
  have := congrArg UInt8.toNat h
  simp only [UInt8.toNat_ofNat'] at this
  omega
theorem nmQ_inj {i j : Nat} (hi : i < 1100) (hj : j < 1100) (h : nmQ i = nmQ j) : i = j := by
  unfold nmQ at h
  injection h with h1 h
  injection h with h2 h
  injection h with h3 h
  have e1 := ofNat_inj (by omega) (by omega) h1
  have e2 := ofNat_inj (by omega) (by omega) h2
  have e3 := ofNat_inj (by omega) (by omega) h3
  omega
def newB : List UInt8 := [110, 101, 119]
theorem nmQ_new {i : Nat} (hi : i < 1100) : nmQ i ≠ newB := by
  intro h
  unfold nmQ newB at h
  injection h with h1 h
  have e1 := ofNat_inj (a := 97 + i / 100) (b := 110) (by omega) (by omega) h1
  omega
def rQ : Rl := ⟨10, 1, 0⟩
def oneQ : Acc := ⟨0, 1, 0, 0, 0⟩
/-- k clients, each of whom has had a command. -/
structure FQ (m : List (List UInt8 × Acc)) (k : Nat) : Prop where
  ap : Apart m
  len : m.length = k
  mem : ∀ p ∈ m, p.2 = oneQ ∧ ∃ j, j < k ∧ p.1 = nmQ j
theorem FQ.nil : FQ [] 0 := ⟨List.nodup_nil, rfl, fun p hp => by cases hp⟩
theorem FQ.none {m : List (List UInt8 × Acc)} {k : Nat} (h : FQ m k) {c : List UInt8} (hc : ∀ j, j < k → nmQ j ≠ c) : mhas m c = false := by
  cases hh : mhas m c
  · rfl
  · obtain ⟨p, hp, e⟩ := List.mem_map.1 (mhas_iff.1 hh)
    obtain ⟨_, j, hj, e2⟩ := h.mem p hp
    exact absurd (e2.symm.trans e) (hc j hj)
theorem FQ.tidy {m : List (List UInt8 × Acc)} {k : Nat} (h : FQ m k) {now : Nat} (hn : now < 20) : tidyM rQ.P now m = m := by
  unfold tidyM
  rw [List.filter_eq_self]
  intro p hp
  obtain ⟨e, _⟩ := h.mem p hp
  rw [e]
  have hw : now / rQ.P = 0 ∨ now / rQ.P = 1 := by show now / 10 = 0 ∨ now / 10 = 1; omega
  unfold idleA
  rcases hw with e | e <;> rw [e] <;> rfl
theorem FQ.gone {m : List (List UInt8 × Acc)} {k : Nat} (h : FQ m k) {now : Nat} (hn : 20 ≤ now) : tidyM rQ.P now m = [] := by
  unfold tidyM
  rw [List.filter_eq_nil_iff]
  intro p hp
  obtain ⟨e, _⟩ := h.mem p hp
  rw [e]
  have hw : (0 : Nat) + 1 < now / rQ.P := by show 0 + 1 < now / 10; omega
  have : idleA rQ.P now oneQ = true := by
    rw [idle_iff, accAt_late (show now / rQ.P > oneQ.w + 1 from hw)]
    exact ⟨rfl, rfl, rfl, rfl⟩
  simp [this]
theorem allows_new (t : Nat) : allowsA rQ accZ t 0 = true := by
  rw [allows_iff]
  unfold used0 used1
  rw [accAt_zero]
  dsimp only
  rw [part_zero]
  exact ⟨by decide, by decide⟩
theorem FQ.room {m : List (List UInt8 × Acc)} {k : Nat} (h : FQ m k) (hk : k < 1000) {i : Nat} (hi : i = k) : ∃ m', askM rQ 0 m (nmQ i) 0 = (true, 0, m') ∧ FQ m' (k + 1) := by
  subst hi
  have hh : mhas m (nmQ i) = false := h.none (fun j hj e => by have := nmQ_inj (by omega) (by omega) e; omega)
  have hg : mget accZ m (nmQ i) = accZ := mget_none hh
  refine ⟨mput m (nmQ i) oneQ, ?_, h.ap.put _ _, ?_, ?_⟩
  · rw [askM_is (by rw [hg]; exact Nat.zero_le _) (by rw [h.len]; omega), hg, show ((0 : Nat) : Int) = 0 from rfl, allows_new, h.tidy (by omega)]
    rfl
  · rw [mput_len h.ap, hh, h.len]; rfl
  · intro p hp
    rcases mem_mput.1 hp with rfl | ⟨hp, _⟩
    · exact ⟨rfl, i, by omega, rfl⟩
    · obtain ⟨e, j, hj, e2⟩ := h.mem p hp
      exact ⟨e, j, by omega, e2⟩
theorem FQ.full {m : List (List UInt8 × Acc)} (h : FQ m 1000) {now : Nat} (hn : now < 20) {c : List UInt8} (hc : ∀ j, j < 1000 → nmQ j ≠ c) : askM rQ now m c 0 = (false, 7, m) := by
  have hh : mhas m c = false := h.none hc
  have hg : mget accZ m c = accZ := mget_none hh
  unfold askM
  rw [hg, allows_at (Nat.zero_le _), show ((0 : Nat) : Int) = 0 from rfl, allows_new, if_pos rfl, h.tidy hn, if_pos ⟨hh, by rw [h.len]; exact Nat.le_refl _⟩]
theorem FQ.last {m : List (List UInt8 × Acc)} {k : Nat} (h : FQ m k) {now : Nat} (hk : k ≤ 1000) (hn : k < 1000 ∨ 20 ≤ now) : ∃ m', askM rQ now m newB 0 = (true, 0, m') := by
  have hh : mhas m newB = false := h.none (fun j hj => nmQ_new (by omega))
  have hg : mget accZ m newB = accZ := mget_none hh
  refine ⟨mput (tidyM rQ.P now m) newB (accPlus (accAt accZ (now / rQ.P)) 0), ?_⟩
  unfold askM
  rw [hg, allows_at (Nat.zero_le _), show ((0 : Nat) : Int) = 0 from rfl, allows_new, if_pos rfl, if_neg]
  rintro ⟨_, h2⟩
  rcases hn with h3 | h3
  · have := List.length_filter_le (fun p => !idleA rQ.P now p.2) m
    have := h.len
    unfold tidyM at h2
    omega
  · rw [h.gone h3] at h2
    simp at h2
theorem FQ.clients {m : List (List UInt8 × Acc)} {k now : Nat} (h : FQ m k) (hn : now < 20) : (clients rQ.P now m).length = k := by
  unfold Go.Proofs.Ytnofpbhpnhbbpaa.clients
  rw [h.tidy hn, (List.mergeSort_perm _ leB).length_eq]
  unfold mkeys
  rw [List.length_map, h.len]
end Go.Proofs.Ytnofpbhpnhbbpaa
