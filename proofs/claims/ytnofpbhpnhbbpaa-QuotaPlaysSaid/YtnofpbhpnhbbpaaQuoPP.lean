/- The program's book and the document's: they say the same. -/
import Derived.Test.YtnofpbhpnhbbpaaQuoLc
import Derived.Test.YtnofpbhpnhbbpaaQuoV
namespace Go.Proofs.Ytnofpbhpnhbbpaa
set_option linter.unusedVariables false
open Go.RowKit Go.Maps Go.Sort

theorem BkInv.used {r : Rl} {now t : Nat} {m : List (List UInt8 × Acc)} {L : List Alw} (h : BkInv r now m L) (ht : now ≤ t) (c : List UInt8) : usedL0 r.P L c t = used0 r.P (mget accZ m c) t ∧ usedL1 r.P L c t = used1 r.P (mget accZ m c) t := by
  have e := h.acc c (t / r.P) (Nat.div_le_div_right ht)
  unfold usedL0 usedL1 used0 used1
  rw [e]
  exact ⟨rfl, rfl⟩
theorem BkInv.allows {r : Rl} {now t : Nat} {m : List (List UInt8 × Acc)} {L : List Alw} (h : BkInv r now m L) (ht : now ≤ t) (c : List UInt8) (k : Int) : allowsL r L c t k = allowsA r (mget accZ m c) t k := by
  obtain ⟨e1, e2⟩ := h.used ht c
  unfold allowsL allowsA
  rw [e1, e2]
theorem BkInv.accOk {r : Rl} {now t : Nat} {m : List (List UInt8 × Acc)} {L : List Alw} (h : BkInv r now m L) (ht : now ≤ t) (ht2 : t ≤ 9223372036854775808) (c : List UInt8) (hk : AccOk (mget accZ m c)) : AccOk (accOf L c (t / r.P)) := by
  rw [← h.acc c (t / r.P) (Nat.div_le_div_right ht)]
  exact accAt_ok hk (Nat.le_trans (Nat.div_le_self _ _) ht2)
theorem BkInv.askM {r : Rl} {now t : Nat} {m : List (List UInt8 × Acc)} {L : List Alw} (h : BkInv r now m L) (ha : Apart m) (ht : now ≤ t) (c : List UInt8) (k : Nat) (hl : m.length < 1000) :
    ∃ m', askM r t m c k = (allowsA r (mget accZ m c) t k, 0, m') ∧ BkInv r t m' (if allowsA r (mget accZ m c) t k = true then L ++ [⟨c, t / r.P, k⟩] else L) := by
  have h2 := h.later ht
  refine ⟨_, askM_is (h2.w c) hl, ?_⟩
  split
  · have h3 := (h2.tidy ha).ask (ha.tidy _ _) c k
    have e : accAt (mget accZ (tidyM r.P t m) c) (t / r.P) = accAt (mget accZ m c) (t / r.P) := by
      rw [(h2.tidy ha).acc c _ (Nat.le_refl _), h2.acc c _ (Nat.le_refl _)]
    rw [e] at h3
    exact h3
  · exact h2
/-- What an allowed call adds is small. -/
theorem allowed_small {r : Rl} {a : Acc} {t k : Nat} (hr : RlOk r) (h : allowsA r a t (k : Int) = true) : k ≤ 1073741824 := by
  obtain ⟨_, h2⟩ := allows_iff.1 h
  have := hr.B
  omega
/-- A call of the law: the program's book, the document's, and what ties them. -/
structure Ps (V w : World) (r : Rl) (g b n now : Nat) (m : List (List UInt8 × Acc)) (M : Nat) (q : Option Addr) (cap : Nat) (L : List Alw) : Prop where
  qb : Qb w g b n r now m
  md : Md w V.heap.size M r now q cap L
  i : BkInv r now m L
  kb : ∀ x ∈ L, x.k ≤ 1073741824
  d1 : M ≠ g
  d2 : M ≠ b
  d3 : (Value.slice q L.length cap).ownBlock ≠ some g
  d4 : (Value.slice q L.length cap).ownBlock ≠ some b
  v1 : V.heap.size ≤ g
  v2 : V.heap.size ≤ b
  v3 : V.heap.size ≤ M
  nw : now ≤ 4611686018427387904
  bel : Below V.heap.size V w
section
variable {V w w' : World} {r : Rl} {g b n now M : Nat} {m : List (List UInt8 × Acc)} {q : Option Addr} {cap : Nat} {L : List Alw}
theorem Ps.quiet (h : Ps V w r g b n now m M q cap L) (hb : Below w.heap.size w w') : Ps V w' r g b n now m M q cap L :=
  ⟨h.qb.below hb, h.md.below hb, h.i, h.kb, h.d1, h.d2, h.d3, h.d4, h.v1, h.v2, h.v3, h.nw, h.bel.trans (hb.mono h.bel.size)⟩
theorem Ps.accOk (h : Ps V w r g b n now m M q cap L) (c : List UInt8) : AccOk (mget accZ m c) := mget_ok h.qb.mp accZ_ok c
theorem Ps.old (h : Ps V w r g b n now m M q cap L) : ∀ x ∈ L, x.v ≤ 9223372036854775808 := fun x hx => Nat.le_trans (h.i.old x hx) (Nat.le_trans (Nat.div_le_self _ _) (by have := h.nw; omega))
/-- Only the book has turned. -/
theorem Ps.book (h : Ps V w r g b n now m M q cap L) (ho : Only (fun i => i = g ∨ i = b) w w') : Md w' V.heap.size M r now q cap L ∧ Below V.heap.size V w' := by
  have e1 := h.d1
  have e2 := h.d2
  have v1 := h.v1
  have v2 := h.v2
  refine ⟨h.md.only ho (by omega) (fun i hi hs => ?_), h.bel.trans (ho.below (fun i hi => by omega) h.bel.size)⟩
  rcases hs with rfl | rfl
  · exact h.d3 hi
  · exact h.d4 hi
end
end Go.Proofs.Ytnofpbhpnhbbpaa
