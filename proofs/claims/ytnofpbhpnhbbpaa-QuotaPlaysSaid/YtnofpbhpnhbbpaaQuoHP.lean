/- QuotaHolds: plain law: two books, one with another client. -/
import Derived.Test.YtnofpbhpnhbbpaaQuoK
namespace Go.Proofs.Ytnofpbhpnhbbpaa
set_option linter.unusedVariables false
open Go.Sort

/-- Two accounts that say the same from a window on. -/
structure Eqv (W : Nat) (a a' : Acc) : Prop where
  w : a.w ≤ W
  w' : a'.w ≤ W
  eq : ∀ v, W ≤ v → accAt a v = accAt a' v
theorem Eqv.refl {W : Nat} {a : Acc} (h : a.w ≤ W) : Eqv W a a := ⟨h, h, fun _ _ => rfl⟩
theorem Eqv.symm {W : Nat} {a a' : Acc} (h : Eqv W a a') : Eqv W a' a := ⟨h.w', h.w, fun v hv => (h.eq v hv).symm⟩
theorem Eqv.trans {W : Nat} {a a' a'' : Acc} (h : Eqv W a a') (k : Eqv W a' a'') : Eqv W a a'' := ⟨h.w, k.w', fun v hv => (h.eq v hv).trans (k.eq v hv)⟩
theorem Eqv.later {W W' : Nat} {a a' : Acc} (h : Eqv W a a') (hw : W ≤ W') : Eqv W' a a' := ⟨Nat.le_trans h.w hw, Nat.le_trans h.w' hw, fun v hv => h.eq v (Nat.le_trans hw hv)⟩
theorem Eqv.used {P t : Nat} {a a' : Acc} {W : Nat} (h : Eqv W a a') (hw : W ≤ t / P) : used0 P a t = used0 P a' t ∧ used1 P a t = used1 P a' t := by
  unfold used0 used1
  rw [h.eq _ hw]
  exact ⟨rfl, rfl⟩
theorem Eqv.allows {r : Rl} {t : Nat} {k : Int} {a a' : Acc} {W : Nat} (h : Eqv W a a') (hw : W ≤ t / r.P) : allowsA r a t k = allowsA r a' t k := by
  obtain ⟨h1, h2⟩ := h.used hw
  unfold allowsA
  rw [h1, h2]
theorem zero_late {a : Acc} {W v : Nat} (hw : a.w ≤ W) (h : accAt a W = ⟨W, 0, 0, 0, 0⟩) (hv : W ≤ v) : accAt a v = ⟨v, 0, 0, 0, 0⟩ := by
  rw [← accAt_at hw hv, h]
  rcases Nat.eq_or_lt_of_le hv with e | h1
  · subst e; exact accAt_same (Nat.le_refl _)
  · rcases Nat.eq_or_lt_of_le (show W + 1 ≤ v by omega) with e | h2
    · rw [accAt_next (by dsimp only; omega)]
    · rw [accAt_late (by dsimp only; omega)]
theorem idle_eqv {P now : Nat} {a : Acc} (hw : a.w ≤ now / P) (h : idleA P now a = true) : Eqv (now / P) accZ a := by
  refine ⟨Nat.zero_le _, hw, fun v hv => ?_⟩
  obtain ⟨i1, i2, i3, i4⟩ := idle_iff.1 h
  have e : accAt a (now / P) = ⟨now / P, 0, 0, 0, 0⟩ := by
    have := accAt_w hw
    generalize accAt a (now / P) = b at *
    obtain ⟨b0, b1, b2, b3, b4⟩ := b
    dsimp only at *
    rw [this, i1, i2, i3, i4]
  rw [accAt_zero, zero_late hw e hv]
theorem tidy_eqv {P now : Nat} {m : List (List UInt8 × Acc)} (ha : Apart m) {c : List UInt8} (hw : (mget accZ m c).w ≤ now / P) : Eqv (now / P) (mget accZ (tidyM P now m) c) (mget accZ m c) := by
  unfold tidyM
  rw [mget_filter ha]
  split
  · exact Eqv.refl hw
  · rename_i hn
    cases hm : mhas m c
    · rw [mget_none hm]; exact Eqv.refl (Nat.zero_le _)
    · cases hi : idleA P now (mget accZ m c)
      · exact absurd ⟨hm, by simp [hi]⟩ hn
      · exact idle_eqv hw hi
def meB : List UInt8 := [109, 101]
def otherB : List UInt8 := [111, 116, 104, 101, 114]
theorem Apart.tidy {m : List (List UInt8 × Acc)} (h : Apart m) (P now : Nat) : Apart (tidyM P now m) := h.filter _
structure HI (r : Rl) (now : Nat) (m1 m2 : List (List UInt8 × Acc)) (n s : Nat) : Prop where
  e : Eqv (now / r.P) (mget accZ m1 meB) (mget accZ m2 meB)
  u0 : used0 r.P (mget accZ m1 meB) now ≤ r.C
  u1 : used1 r.P (mget accZ m1 meB) now ≤ r.B
  n : n = (accAt (mget accZ m1 meB) (now / r.P)).n0
  s : s = (accAt (mget accZ m1 meB) (now / r.P)).n1
theorem HI.start (r : Rl) : HI r 0 [] [] 0 0 := by
  have z : (0 : Nat) / r.P = 0 := Nat.zero_div _
  refine ⟨Eqv.refl (Nat.zero_le _), ?_, ?_, ?_, ?_⟩
  · show used0 r.P accZ 0 ≤ r.C
    unfold used0; rw [z, accAt_zero]; dsimp only; rw [part_zero]; omega
  · show used1 r.P accZ 0 ≤ r.B
    unfold used1; rw [z, accAt_zero]; dsimp only; rw [part_zero]; omega
  · show 0 = (accAt accZ _).n0
    rw [accAt_zero]
  · show 0 = (accAt accZ _).n1
    rw [accAt_zero]
theorem HI.later {r : Rl} {now now' : Nat} {m1 m2 : List (List UInt8 × Acc)} {n s : Nat} (hP : 1 ≤ r.P) (h : HI r now m1 m2 n s) (hn : now ≤ now') :
    HI r now' m1 m2 (if now' / r.P = now / r.P then n else 0) (if now' / r.P = now / r.P then s else 0) := by
  have hd : now / r.P ≤ now' / r.P := Nat.div_le_div_right hn
  obtain ⟨k0, k1⟩ := used_mono hP h.e.w hn
  refine ⟨h.e.later hd, Nat.le_trans k0 h.u0, Nat.le_trans k1 h.u1, ?_, ?_⟩
  · split
    · rename_i e; rw [e]; exact h.n
    · rename_i e
      have hw := h.e.w
      rcases Nat.eq_or_lt_of_le (show now / r.P + 1 ≤ now' / r.P by omega) with e1 | e1
      · rcases Nat.eq_or_lt_of_le hw with e2 | e2
        · rw [accAt_next (by omega)]
        · rw [accAt_late (by omega)]
      · rw [accAt_late (by omega)]
  · split
    · rename_i e; rw [e]; exact h.s
    · rename_i e
      have hw := h.e.w
      rcases Nat.eq_or_lt_of_le (show now / r.P + 1 ≤ now' / r.P by omega) with e1 | e1
      · rcases Nat.eq_or_lt_of_le hw with e2 | e2
        · rw [accAt_next (by omega)]
        · rw [accAt_late (by omega)]
      · rw [accAt_late (by omega)]
theorem HI.turn {r : Rl} {now : Nat} {m1 m1' m2 : List (List UInt8 × Acc)} {n s : Nat} (h : HI r now m1 m2 n s) (he : Eqv (now / r.P) (mget accZ m1' meB) (mget accZ m1 meB)) : HI r now m1' m2 n s := by
  obtain ⟨k0, k1⟩ := he.used (P := r.P) (t := now) (Nat.le_refl _)
  have := he.eq _ (Nat.le_refl _)
  exact ⟨he.trans h.e, by rw [k0]; exact h.u0, by rw [k1]; exact h.u1, by rw [this]; exact h.n, by rw [this]; exact h.s⟩
theorem HI.other {r : Rl} {now : Nat} {m1 m2 : List (List UInt8 × Acc)} {n s : Nat} (h : HI r now m1 m2 n s) (ha : Apart m1) (k : Nat) : HI r now (askM r now m1 otherB k).2.2 m2 n s := by
  refine h.turn ?_
  have ht := tidy_eqv ha h.e.w
  unfold askM
  split
  · split
    · exact ht
    · dsimp only
      rw [mget_put_other (ha.tidy _ _) (show meB ≠ otherB by decide)]
      exact ht
  · exact Eqv.refl h.e.w
theorem allows_at {r : Rl} {a : Acc} {t : Nat} {k : Int} (hw : a.w ≤ t / r.P) : allowsA r (accAt a (t / r.P)) t k = allowsA r a t k := by
  obtain ⟨h1, h2⟩ := used_accAt hw (Nat.le_refl _)
  unfold allowsA
  rw [h1, h2]
theorem askM_is {r : Rl} {now : Nat} {m : List (List UInt8 × Acc)} {c : List UInt8} {k : Nat} (hw : (mget accZ m c).w ≤ now / r.P) (hl : m.length < 1000) :
    askM r now m c k = (allowsA r (mget accZ m c) now k, 0, if allowsA r (mget accZ m c) now k = true then mput (tidyM r.P now m) c (accPlus (accAt (mget accZ m c) (now / r.P)) k) else m) := by
  have hl2 : (tidyM r.P now m).length ≤ m.length := List.length_filter_le _ _
  unfold askM
  rw [allows_at hw]
  cases allowsA r (mget accZ m c) now k
  · simp
  · simp only [if_true]
    rw [if_neg (fun h => by have := h.2; omega)]
theorem HI.ask {r : Rl} {now : Nat} {m1 m2 : List (List UInt8 × Acc)} {n s : Nat} (hP : 1 ≤ r.P) (h : HI r now m1 m2 n s) (ha1 : Apart m1) (ha2 : Apart m2) (hl1 : m1.length < 1000) (hl2 : m2.length < 1000) (k : Nat) :
    ∃ is m1' m2', is = allowsA r (mget accZ m1 meB) now k ∧ askM r now m1 meB k = (is, 0, m1') ∧ askM r now m2 meB k = (is, 0, m2') ∧ HI r now m1' m2' (if is = true then n + 1 else n) (if is = true then s + k else s) ∧ (is = false → m1' = m1) := by
  have q1 := askM_is (k := k) h.e.w hl1
  have q2 := askM_is (k := k) h.e.w' hl2
  rw [← h.e.allows (Nat.le_refl _)] at q2
  refine ⟨_, _, _, rfl, q1, q2, ?_, ?_⟩
  · cases hal : allowsA r (mget accZ m1 meB) now k
    · simp only [Bool.false_eq_true, if_false]
      exact h
    · simp only [if_true]
      have e1 := h.e.eq _ (Nat.le_refl (now / r.P))
      rw [← e1]
      have w1 := accAt_w h.e.w
      obtain ⟨z1, z2⟩ := allows_iff.1 hal
      unfold used0 at z1
      unfold used1 at z2
      have hn := h.n
      have hs := h.s
      generalize accAt (mget accZ m1 meB) (now / r.P) = A at *
      obtain ⟨v0, n0, n1, b0, b1⟩ := A
      dsimp only at *
      have g1 : mget accZ (mput (tidyM r.P now m1) meB (accPlus ⟨v0, n0, n1, b0, b1⟩ k)) meB = ⟨now / r.P, n0 + 1, n1 + k, b0, b1⟩ := by
        rw [mget_put_same (ha1.tidy _ _), w1]; rfl
      have g2 : mget accZ (mput (tidyM r.P now m2) meB (accPlus ⟨v0, n0, n1, b0, b1⟩ k)) meB = ⟨now / r.P, n0 + 1, n1 + k, b0, b1⟩ := by
        rw [mget_put_same (ha2.tidy _ _), w1]; rfl
      have g3 : accAt ⟨now / r.P, n0 + 1, n1 + k, b0, b1⟩ (now / r.P) = ⟨now / r.P, n0 + 1, n1 + k, b0, b1⟩ := accAt_same (Nat.le_refl _)
      refine ⟨?_, ?_, ?_, ?_, ?_⟩
      · rw [g1, g2]; exact Eqv.refl (Nat.le_refl _)
      · rw [g1]; unfold used0; rw [g3]; dsimp only; omega
      · rw [g1]; unfold used1; rw [g3]; dsimp only; omega
      · rw [g1, g3, hn]
      · rw [g1, g3, hs]
  · intro hf
    rw [hf]
    simp
/-- What is left says whether it is allowed. -/
theorem HI.leftB {r : Rl} {now : Nat} {m1 m2 : List (List UInt8 × Acc)} {n s : Nat} (h : HI r now m1 m2 n s) (k : Nat) :
    (decide (1 ≤ leftA r.C (used0 r.P (mget accZ m1 meB) now)) && decide ((k : Int) ≤ leftA r.B (used1 r.P (mget accZ m1 meB) now))) = allowsA r (mget accZ m1 meB) now k := by
  have h1 := h.u0
  have h2 := h.u1
  unfold leftA allowsA
  rw [Bool.eq_iff_iff, Bool.and_eq_true, Bool.and_eq_true, decide_eq_true_eq, decide_eq_true_eq, decide_eq_true_eq, decide_eq_true_eq]
  omega
theorem HI.roomN {r : Rl} {now : Nat} {m1 m2 : List (List UInt8 × Acc)} {n s : Nat} (h : HI r now m1 m2 n s) : n ≤ r.C ∧ s ≤ r.B := by
  have h1 := h.u0
  have h2 := h.u1
  unfold used0 at h1
  unfold used1 at h2
  rw [h.n, h.s]
  constructor <;> omega
theorem never_no {r : Rl} {a : Acc} {t : Nat} {k : Int} (h : neverB r k = true) : allowsA r a t k = false := by
  cases hc : allowsA r a t k
  · rfl
  · obtain ⟨h1, h2⟩ := allows_iff.1 hc
    unfold neverB at h
    rw [Bool.or_eq_true, decide_eq_true_eq, decide_eq_true_eq] at h
    omega
theorem WaitP.now {r : Rl} {a : Acc} {tt x : Nat} {k : Int} (hP : 1 ≤ r.P) (hw : a.w ≤ tt / r.P) (h : WaitP r a tt k x) : decide (x = tt) = allowsA r a tt k := by
  cases hc : allowsA r a tt k
  · rw [decide_eq_false_iff_not]
    rintro rfl
    have := h.yes
    rw [hc] at this
    cases this
  · rw [decide_eq_true_eq]
    rcases h.no with e | ⟨h1, h2⟩
    · exact e
    · have := allows_mono (r := r) (k := k) hP hw (show tt ≤ x - 1 by omega) hc
      rw [this] at h2
      cases h2
end Go.Proofs.Ytnofpbhpnhbbpaa
