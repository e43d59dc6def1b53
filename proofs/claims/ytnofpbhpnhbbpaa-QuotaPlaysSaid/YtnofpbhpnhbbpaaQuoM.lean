/- The document's book of quotas against the program's: plain law. -/
import Derived.Test.YtnofpbhpnhbbpaaQuoP
import Derived.Test.YtnofpbhpnhbbpaaMapV
import Derived.Test.YtnofpbhpnhbbpaaIntO
namespace Go.Proofs.Ytnofpbhpnhbbpaa
open Go.Sort

/-- Something that was allowed: a client, a window, bytes. -/
structure Alw where
  c : List UInt8
  v : Nat
  k : Nat
def hitB (c : List UInt8) (v : Nat) (x : Alw) : Bool := (x.c == c) && decide (x.v = v)
def cntL (L : List Alw) (c : List UInt8) (v : Nat) : Nat := (L.filter (hitB c v)).length
def bytL (L : List Alw) (c : List UInt8) (v : Nat) : Nat := ((L.filter (hitB c v)).map (·.k)).sum
theorem cntL_snoc (L : List Alw) (x : Alw) (c : List UInt8) (v : Nat) : cntL (L ++ [x]) c v = cntL L c v + if hitB c v x = true then 1 else 0 := by
  unfold cntL
  rw [List.filter_append, List.length_append]
  cases h : hitB c v x <;> simp [h]
theorem bytL_snoc (L : List Alw) (x : Alw) (c : List UInt8) (v : Nat) : bytL (L ++ [x]) c v = bytL L c v + if hitB c v x = true then x.k else 0 := by
  unfold bytL
  rw [List.filter_append, List.map_append, List.sum_append]
  cases h : hitB c v x <;> simp [h]
theorem cnt_zero {L : List Alw} {W v : Nat} (h : ∀ x ∈ L, x.v ≤ W) (hv : W < v) (c : List UInt8) : L.filter (hitB c v) = [] := by
  rw [List.filter_eq_nil_iff]
  intro x hx
  have := h x hx
  unfold hitB
  have hn : ¬ x.v = v := by omega
  simp [hn]
theorem byt_of_cnt {L : List Alw} {c : List UInt8} {v : Nat} (h : cntL L c v = 0) : bytL L c v = 0 := by
  unfold cntL at h
  unfold bytL
  rw [List.length_eq_zero_iff.1 h]
  rfl
def prevN (f : Nat → Nat) (v : Nat) : Nat := if v = 0 then 0 else f (v - 1)
/-- The account of a client in a window, by the document. -/
def accOf (L : List Alw) (c : List UInt8) (v : Nat) : Acc := ⟨v, cntL L c v, bytL L c v, prevN (cntL L c) v, prevN (bytL L c) v⟩

structure BkInv (r : Rl) (now : Nat) (m : List (List UInt8 × Acc)) (L : List Alw) : Prop where
  w : ∀ c, (mget accZ m c).w ≤ now / r.P
  acc : ∀ c v, now / r.P ≤ v → accAt (mget accZ m c) v = accOf L c v
  old : ∀ x ∈ L, x.v ≤ now / r.P
theorem accAt_zero (v : Nat) : accAt accZ v = ⟨v, 0, 0, 0, 0⟩ := by
  unfold accAt accZ
  by_cases h1 : v = 0 + 1
  · rw [if_pos h1]
  · rw [if_neg h1]
    by_cases h2 : v > 0
    · rw [if_pos h2]
    · rw [if_neg h2]
      have : v = 0 := by omega
      rw [this]
theorem accOf_nil (c : List UInt8) (v : Nat) : accOf [] c v = ⟨v, 0, 0, 0, 0⟩ := by
  unfold accOf prevN cntL bytL
  simp
theorem BkInv.nil (r : Rl) (now : Nat) : BkInv r now [] [] where
  w := fun c => Nat.zero_le _
  acc := fun c v _ => by show accAt accZ v = _; rw [accAt_zero, accOf_nil]
  old := fun x hx => by cases hx
theorem BkInv.later {r : Rl} {now now' : Nat} {m : List (List UInt8 × Acc)} {L : List Alw} (h : BkInv r now m L) (hn : now ≤ now') : BkInv r now' m L where
  w := fun c => Nat.le_trans (h.w c) (Nat.div_le_div_right hn)
  acc := fun c v hv => h.acc c v (Nat.le_trans (Nat.div_le_div_right hn) hv)
  old := fun x hx => Nat.le_trans (h.old x hx) (Nat.div_le_div_right hn)

theorem mget_filter {α : Type} {z : α} {m : List (List UInt8 × α)} (h : Apart m) (q : List UInt8 × α → Bool) (c : List UInt8) :
    mget z (m.filter q) c = if mhas m c = true ∧ q (c, mget z m c) = true then mget z m c else z := by
  by_cases hh : mhas m c = true ∧ q (c, mget z m c) = true
  · rw [if_pos hh]
    exact mget_mem (h.filter q) (List.mem_filter.2 ⟨mget_some hh.1, hh.2⟩)
  · rw [if_neg hh]
    refine mget_none ?_
    cases hm : mhas (m.filter q) c
    · rfl
    · exfalso
      obtain ⟨p, hp, hk⟩ := List.mem_map.1 (mhas_iff.1 hm)
      obtain ⟨h1, h2⟩ := List.mem_filter.1 hp
      subst hk
      have h3 : mget z m p.1 = p.2 := mget_mem h h1
      exact hh ⟨mhas_iff.2 (List.mem_map.2 ⟨p, h1, rfl⟩), by rw [h3]; exact h2⟩
def tidyM (P now : Nat) (m : List (List UInt8 × Acc)) : List (List UInt8 × Acc) := m.filter fun p => !idleA P now p.2
theorem idle_iff {P now : Nat} {a : Acc} : idleA P now a = true ↔ (accAt a (now / P)).n0 = 0 ∧ (accAt a (now / P)).n1 = 0 ∧ (accAt a (now / P)).b0 = 0 ∧ (accAt a (now / P)).b1 = 0 := by
  unfold idleA
  simp only [Bool.and_eq_true, decide_eq_true_eq]
  constructor
  · rintro ⟨⟨h1, h2⟩, h3, h4⟩; exact ⟨h1, h2, h3, h4⟩
  · rintro ⟨h1, h2, h3, h4⟩; exact ⟨⟨h1, h2⟩, h3, h4⟩
theorem accOf_late {L : List Alw} {W : Nat} (h : ∀ x ∈ L, x.v ≤ W) (c : List UInt8) (h0 : accOf L c W = ⟨W, 0, 0, 0, 0⟩) {v : Nat} (hv : W ≤ v) : accOf L c v = ⟨v, 0, 0, 0, 0⟩ := by
  unfold accOf at h0
  injection h0 with _ e1 e2 e3 e4
  unfold accOf
  rcases Nat.eq_or_lt_of_le hv with e | hlt
  · subst e; rw [e1, e2, e3, e4]
  · have z1 : cntL L c v = 0 := by unfold cntL; rw [cnt_zero h hlt c]; rfl
    have z2 : bytL L c v = 0 := byt_of_cnt z1
    have z3 : cntL L c (v - 1) = 0 := by
      rcases Nat.eq_or_lt_of_le (show W ≤ v - 1 by omega) with e | h2
      · rw [← e]; exact e1
      · unfold cntL; rw [cnt_zero h h2 c]; rfl
    have z4 : bytL L c (v - 1) = 0 := byt_of_cnt z3
    unfold prevN
    rw [z1, z2, if_neg (by omega), if_neg (by omega), z3, z4]
theorem BkInv.tidy {r : Rl} {now : Nat} {m : List (List UInt8 × Acc)} {L : List Alw} (h : BkInv r now m L) (ha : Apart m) : BkInv r now (tidyM r.P now m) L where
  w := fun c => by
    unfold tidyM
    rw [mget_filter ha]
    split
    · exact h.w c
    · exact Nat.zero_le _
  acc := fun c v hv => by
    unfold tidyM
    rw [mget_filter ha]
    split
    · exact h.acc c v hv
    · rename_i hn
      rw [accAt_zero]
      refine (accOf_late h.old c ?_ hv).symm
      rw [← h.acc c _ (Nat.le_refl _)]
      cases hm : mhas m c
      · rw [mget_none hm, accAt_zero]
      · cases hi : idleA r.P now (mget accZ m c)
        · exact absurd ⟨hm, by simp [hi]⟩ hn
        · obtain ⟨i1, i2, i3, i4⟩ := idle_iff.1 hi
          have e := h.acc c _ (Nat.le_refl _)
          rw [e] at i1 i2 i3 i4 ⊢
          show Acc.mk (accOf L c _).w _ _ _ _ = _
          rw [show (accOf L c (now / r.P)).w = now / r.P from rfl]
          show Acc.mk _ (accOf L c _).n0 (accOf L c _).n1 (accOf L c _).b0 (accOf L c _).b1 = _
          rw [i1, i2, i3, i4]
  old := h.old
def accPlus (a : Acc) (k : Nat) : Acc := ⟨a.w, a.n0 + 1, a.n1 + k, a.b0, a.b1⟩
theorem hitB_iff {c : List UInt8} {v : Nat} {x : Alw} : hitB c v x = true ↔ x.c = c ∧ x.v = v := by
  unfold hitB
  simp
theorem accOf_other {L : List Alw} {c c' : List UInt8} (hne : c' ≠ c) (W k v : Nat) : accOf (L ++ [⟨c, W, k⟩]) c' v = accOf L c' v := by
  have e : ∀ u, hitB c' u ⟨c, W, k⟩ = false := fun u => by
    cases hh : hitB c' u ⟨c, W, k⟩
    · rfl
    · exact absurd (hitB_iff.1 hh).1.symm hne
  unfold accOf prevN
  simp only [cntL_snoc, bytL_snoc, e, Bool.false_eq_true, if_false, Nat.add_zero]
theorem BkInv.ask {r : Rl} {now : Nat} {m : List (List UInt8 × Acc)} {L : List Alw} (h : BkInv r now m L) (ha : Apart m) (c : List UInt8) (k : Nat) :
    BkInv r now (mput m c (accPlus (accAt (mget accZ m c) (now / r.P)) k)) (L ++ [⟨c, now / r.P, k⟩]) where
  w := fun c' => by
    by_cases e : c' = c
    · subst e
      rw [mget_put_same ha, h.acc _ _ (Nat.le_refl _)]
      exact Nat.le_refl _
    · rw [mget_put_other ha e]
      exact h.w c'
  acc := fun c' v hv => by
    by_cases e : c' = c
    · subst e
      rw [mget_put_same ha, h.acc _ _ (Nat.le_refl _)]
      have hz : ∀ u, now / r.P < u → cntL L c' u = 0 := fun u hu => by unfold cntL; rw [cnt_zero h.old hu c']; rfl
      have hs : hitB c' (now / r.P) ⟨c', now / r.P, k⟩ = true := hitB_iff.2 ⟨rfl, rfl⟩
      have hf : ∀ u, u ≠ now / r.P → hitB c' u ⟨c', now / r.P, k⟩ = false := fun u hu => by
        cases hh : hitB c' u ⟨c', now / r.P, k⟩
        · rfl
        · exact absurd (hitB_iff.1 hh).2.symm hu
      rcases Nat.eq_or_lt_of_le hv with e1 | h1
      · subst e1
        rw [accAt_same (a := accPlus (accOf L c' (now / r.P)) k) (v := now / r.P) (Nat.le_refl _)]
        unfold accPlus accOf prevN
        simp only [cntL_snoc, bytL_snoc, hs, if_true]
        by_cases h0 : now / r.P = 0
        · simp [h0]
        · rw [if_neg h0, if_neg h0, if_neg h0, if_neg h0, hf _ (by omega)]; simp
      · rcases Nat.eq_or_lt_of_le (show now / r.P + 1 ≤ v by omega) with e2 | h2
        · subst e2
          rw [accAt_next (a := accPlus (accOf L c' (now / r.P)) k) (v := now / r.P + 1) rfl]
          unfold accPlus accOf prevN
          simp only [cntL_snoc, bytL_snoc, hf _ (show now / r.P + 1 ≠ now / r.P by omega), Bool.false_eq_true, if_false, hz _ h1, byt_of_cnt (hz _ h1)]
          rw [Nat.add_sub_cancel, if_pos hs, if_pos hs, if_neg (Nat.succ_ne_zero _), if_neg (Nat.succ_ne_zero _)]
        · rw [accAt_late (a := accPlus (accOf L c' (now / r.P)) k) h2]
          unfold accOf prevN
          simp only [cntL_snoc, bytL_snoc, hf _ (show v ≠ now / r.P by omega), hf _ (show v - 1 ≠ now / r.P by omega), Bool.false_eq_true, if_false, hz _ h1, hz (v - 1) (by omega), byt_of_cnt (hz _ h1), byt_of_cnt (hz (v - 1) (by omega))]
          simp
    · rw [mget_put_other ha e, h.acc c' v hv, accOf_other e]
  old := fun x hx => by
    rcases List.mem_append.1 hx with hx | hx
    · exact h.old x hx
    · rw [List.mem_singleton.1 hx]; exact Nat.le_refl _

/-! ### later is less -/
theorem accAt_w {a : Acc} {v : Nat} (h : a.w ≤ v) : (accAt a v).w = v := by
  unfold accAt
  split
  · rfl
  · split
    · rfl
    · omega
theorem accAt_at {a : Acc} {u v : Nat} (h : a.w ≤ u) (hv : u ≤ v) : accAt (accAt a u) v = accAt a v := by
  rcases Nat.eq_or_lt_of_le hv with e | h1
  · subst e; exact accAt_same (by rw [accAt_w h]; exact Nat.le_refl _)
  · rcases Nat.eq_or_lt_of_le h with e | h2
    · rw [accAt_same (v := u) (by omega)]
    · rcases Nat.eq_or_lt_of_le (show a.w + 1 ≤ u by omega) with e3 | h3
      · rw [accAt_next (v := u) e3.symm]
        rw [accAt_late (a := a) (by omega)]
        rcases Nat.eq_or_lt_of_le (show u + 1 ≤ v by omega) with e4 | h4
        · rw [accAt_next e4.symm]
        · rw [accAt_late h4]
      · rw [accAt_late (a := a) (v := u) h3, accAt_late (a := a) (v := v) (by omega)]
        rcases Nat.eq_or_lt_of_le (show u + 1 ≤ v by omega) with e4 | h4
        · rw [accAt_next e4.symm]
        · rw [accAt_late h4]
theorem accAt_idem (a : Acc) (v : Nat) : accAt (accAt a v) v = accAt a v := by
  rcases Nat.lt_or_ge v a.w with h | h
  · rw [accAt_same (Nat.le_of_lt h), accAt_same (Nat.le_of_lt h)]
  · exact accAt_at h (Nat.le_refl _)
theorem used_accAt {P : Nat} {a : Acc} {t u : Nat} (h : a.w ≤ u) (hu : u ≤ t / P) : used0 P (accAt a u) t = used0 P a t ∧ used1 P (accAt a u) t = used1 P a t := by
  unfold used0 used1
  rw [accAt_at h hu]
  exact ⟨rfl, rfl⟩
theorem used_mono {P : Nat} {a : Acc} {t t' : Nat} (hP : 1 ≤ P) (hw : a.w ≤ t / P) (ht : t ≤ t') : used0 P a t' ≤ used0 P a t ∧ used1 P a t' ≤ used1 P a t := by
  have hd : t / P ≤ t' / P := Nat.div_le_div_right ht
  unfold used0 used1
  rw [← accAt_at hw hd]
  have hw2 := accAt_w hw
  generalize accAt a (t / P) = b at hw2 ⊢
  rcases Nat.eq_or_lt_of_le hd with e | h1
  · rw [← e, accAt_same (by omega)]
    have e1 := Nat.div_add_mod t P
    have e2 := Nat.div_add_mod t' P
    rw [← e] at e2
    have hm : t % P ≤ t' % P := by omega
    have := part_mono (P := P) (b := b.b0) hm
    have := part_mono (P := P) (b := b.b1) hm
    constructor <;> omega
  · rcases Nat.eq_or_lt_of_le (show t / P + 1 ≤ t' / P by omega) with e | h2
    · rw [accAt_next (by omega)]
      have := part_le (P := P) (t := t') (b := b.n0) hP
      have := part_le (P := P) (t := t') (b := b.n1) hP
      constructor <;> dsimp only <;> omega
    · rw [accAt_late (by omega)]
      dsimp only
      rw [part_zero]
      constructor <;> omega
theorem used_far {P : Nat} {a : Acc} {t t' : Nat} (hw : a.w ≤ t / P) (ht : t / P + 2 ≤ t' / P) : used0 P a t' = 0 ∧ used1 P a t' = 0 := by
  unfold used0 used1
  rw [accAt_late (by omega)]
  dsimp only
  rw [part_zero]
  exact ⟨rfl, rfl⟩
theorem allows_iff {r : Rl} {a : Acc} {t : Nat} {k : Int} : allowsA r a t k = true ↔ used0 r.P a t + 1 ≤ r.C ∧ k ≤ (r.B : Int) - (used1 r.P a t : Int) := by
  unfold allowsA
  rw [Bool.and_eq_true, decide_eq_true_eq, decide_eq_true_eq]
theorem allows_room {r : Rl} {a : Acc} {t : Nat} {k : Nat} (hi : accAt a (t / r.P) = a) (h : allowsA r a t (k : Int) = true) : a.n0 + 1 ≤ r.C ∧ a.n1 + k ≤ r.B := by
  obtain ⟨h1, h2⟩ := allows_iff.1 h
  unfold used0 at h1
  unfold used1 at h2
  rw [hi] at h1 h2
  constructor <;> omega
theorem allows_mono {r : Rl} {a : Acc} {t t' : Nat} {k : Int} (hP : 1 ≤ r.P) (hw : a.w ≤ t / r.P) (ht : t ≤ t') (h : allowsA r a t k = true) : allowsA r a t' k = true := by
  rw [allows_iff] at h ⊢
  have := used_mono hP hw ht
  constructor <;> omega
theorem allows_far {r : Rl} {a : Acc} {t t' : Nat} {k : Int} (hw : a.w ≤ t / r.P) (ht : t / r.P + 2 ≤ t' / r.P) (hC : 1 ≤ r.C) (hk : k ≤ r.B) : allowsA r a t' k = true := by
  rw [allows_iff]
  obtain ⟨h1, h2⟩ := used_far hw ht
  rw [h1, h2]
  constructor <;> omega

/-! ### the clients -/
def insU (x : List UInt8) : List (List UInt8) → List (List UInt8)
  | [] => [x]
  | y :: r => if y < x then y :: insU x r else if y = x then y :: r else x :: y :: r
theorem mem_insU (x z : List UInt8) : ∀ l : List (List UInt8), z ∈ insU x l ↔ z = x ∨ z ∈ l
  | [] => by simp [insU]
  | y :: r => by
    unfold insU
    split
    · rw [List.mem_cons, mem_insU x z r, List.mem_cons]
      constructor
      · rintro (h | h | h)
        · exact .inr (.inl h)
        · exact .inl h
        · exact .inr (.inr h)
      · rintro (h | h | h)
        · exact .inr (.inl h)
        · exact .inl h
        · exact .inr (.inr h)
    · split
      · rename_i e
        subst e
        rw [List.mem_cons]
        constructor
        · intro h; exact .inr h
        · rintro (h | h)
          · exact .inl h
          · exact h
      · rw [List.mem_cons]
abbrev UpB (l : List (List UInt8)) : Prop := l.Pairwise (fun a b => a < b)
theorem lt_of_not {a b : List UInt8} (h : ¬ a < b) (hne : ¬ a = b) : b < a := by
  have h1 : b ≤ a := List.not_lt.1 h
  rcases List.le_iff_lt_or_eq.1 h1 with h2 | h2
  · exact h2
  · exact absurd h2.symm hne
theorem insU_up (x : List UInt8) : ∀ l : List (List UInt8), UpB l → UpB (insU x l)
  | [], _ => by simp [insU, UpB]
  | y :: r, h => by
    have h' := h
    rw [UpB, List.pairwise_cons] at h'
    unfold insU
    split
    · rename_i hlt
      rw [UpB, List.pairwise_cons]
      refine ⟨fun z hz => ?_, insU_up x r h'.2⟩
      rcases (mem_insU x z r).1 hz with rfl | hz
      · exact hlt
      · exact h'.1 z hz
    · rename_i hlt
      split
      · exact h
      · rename_i hne
        have h1 := lt_of_not hlt hne
        rw [UpB, List.pairwise_cons]
        refine ⟨fun z hz => ?_, h⟩
        rcases List.mem_cons.1 hz with rfl | hz
        · exact h1
        · exact List.lt_trans h1 (h'.1 z hz)
/-- The place of the first one that is not below. -/
def atU (x : List UInt8) : List (List UInt8) → Nat
  | [] => 0
  | y :: r => if y < x then atU x r + 1 else 0
theorem atU_le (x : List UInt8) : ∀ l, atU x l ≤ l.length
  | [] => Nat.le_refl _
  | y :: r => by
    unfold atU
    split
    · have := atU_le x r; simp; omega
    · simp
theorem insU_at (x : List UInt8) : ∀ l : List (List UInt8), insU x l = if l[atU x l]? = some x then l else l.take (atU x l) ++ x :: l.drop (atU x l)
  | [] => by simp [insU, atU]
  | y :: r => by
    unfold insU atU
    split
    · rw [insU_at x r]
      simp only [List.getElem?_cons_succ, List.take_succ_cons, List.drop_succ_cons, List.cons_append]
      split <;> rfl
    · simp only [List.getElem?_cons_zero, List.take_zero, List.drop_zero, List.nil_append, Option.some.injEq]
theorem atU_below {x : List UInt8} : ∀ {l : List (List UInt8)} {k : Nat} (h : k < l.length), k ≤ atU x l → (l[k] < x ↔ k < atU x l)
  | y :: r, 0, h, hk => by
    unfold atU
    split
    · rename_i hlt
      simp [hlt]
    · rename_i hlt
      simp [hlt]
  | y :: r, k + 1, h, hk => by
    unfold atU at hk ⊢
    split at hk
    · rename_i hlt
      rw [if_pos hlt]
      simp only [List.getElem_cons_succ]
      rw [atU_below (by simpa using h) (by omega)]
      omega
    · omega
def nearB (W : Nat) (x : Alw) : Bool := decide (x.v = W) || decide (x.v + 1 = W)
def clientsL (W : Nat) (L : List Alw) : List (List UInt8) := L.foldl (fun out x => if nearB W x = true then insU x.c out else out) []
theorem clients_fold (W : Nat) : ∀ (L : List Alw) (out : List (List UInt8)), UpB out → UpB (L.foldl (fun out x => if nearB W x = true then insU x.c out else out) out) ∧ ∀ z, z ∈ L.foldl (fun out x => if nearB W x = true then insU x.c out else out) out ↔ z ∈ out ∨ ∃ x ∈ L, nearB W x = true ∧ x.c = z
  | [], out, h => ⟨h, fun z => by simp⟩
  | x :: L, out, h => by
    rw [List.foldl_cons]
    cases hn : nearB W x
    · simp only [Bool.false_eq_true, if_false]
      obtain ⟨h1, h2⟩ := clients_fold W L out h
      refine ⟨h1, fun z => (h2 z).trans ?_⟩
      simp [hn]
    · simp only [if_true]
      obtain ⟨h1, h2⟩ := clients_fold W L (insU x.c out) (insU_up _ _ h)
      refine ⟨h1, fun z => (h2 z).trans ?_⟩
      rw [mem_insU]
      constructor
      · rintro ((h | h) | ⟨y, hy, h⟩)
        · exact .inr ⟨x, List.mem_cons_self, hn, h.symm⟩
        · exact .inl h
        · exact .inr ⟨y, List.mem_cons_of_mem _ hy, h⟩
      · rintro (h | ⟨y, hy, h3, h4⟩)
        · exact .inl (.inr h)
        · rcases List.mem_cons.1 hy with rfl | hy
          · exact .inl (.inl h4.symm)
          · exact .inr ⟨y, hy, h3, h4⟩
theorem up_eq {a b : List (List UInt8)} (ha : UpB a) (hb : UpB b) (h : ∀ z, z ∈ a ↔ z ∈ b) : a = b := by
  have nd : ∀ {l : List (List UInt8)}, UpB l → l.Nodup := fun {l} h => List.nodup_iff_pairwise_ne.2 (List.Pairwise.imp (fun {x y} (h : x < y) (e : x = y) => List.lt_irrefl y (by rw [e] at h; exact h)) h)
  have na := nd ha
  have nb := nd hb
  exact List.Perm.eq_of_pairwise (le := fun a b => a < b) (fun x y _ _ h1 h2 => absurd h2 (List.lt_asymm h1)) ha hb ((List.perm_ext_iff_of_nodup na nb).2 h)
theorem sorted_up {l : List (List UInt8)} (h : l.Nodup) : UpB (l.mergeSort leB) := by
  have tr : ∀ a b c : List UInt8, leB a b = true → leB b c = true → leB a c = true := fun a b c h1 h2 => by simp only [leB, decide_eq_true_eq] at *; exact List.le_trans h1 h2
  have to : ∀ a b : List UInt8, (leB a b || leB b a) = true := fun a b => by simp only [leB, Bool.or_eq_true, decide_eq_true_eq]; exact List.le_total a b
  have h1 := List.pairwise_mergeSort tr to l
  have h2 : (l.mergeSort leB).Nodup := (List.mergeSort_perm l leB).nodup_iff.2 h
  have h3 := h1.and (List.nodup_iff_pairwise_ne.1 h2)
  refine h3.imp ?_
  rintro a b ⟨h4, h5⟩
  simp only [leB, decide_eq_true_eq] at h4
  rcases List.le_iff_lt_or_eq.1 h4 with h | h
  · exact h
  · exact absurd h h5
/-- The clients of both books. -/
theorem BkInv.clients {r : Rl} {now : Nat} {m : List (List UInt8 × Acc)} {L : List Alw} (h : BkInv r now m L) (ha : Apart m) : (mkeys (tidyM r.P now m)).mergeSort leB = clientsL (now / r.P) L := by
  have ht : Apart (tidyM r.P now m) := ha.filter _
  obtain ⟨h1, h2⟩ := clients_fold (now / r.P) L [] List.Pairwise.nil
  refine up_eq (sorted_up ht) h1 (fun z => ?_)
  rw [(List.mergeSort_perm _ leB).mem_iff]
  refine Iff.trans ?_ (h2 z).symm
  have key : z ∈ mkeys (tidyM r.P now m) ↔ idleA r.P now (mget accZ m z) = false := by
    unfold mkeys tidyM
    rw [List.mem_map]
    constructor
    · rintro ⟨p, hp, rfl⟩
      obtain ⟨h3, h4⟩ := List.mem_filter.1 hp
      rw [mget_mem ha (show (p.1, p.2) ∈ m from h3)]
      simpa using h4
    · intro hi
      cases hm : mhas m z
      · rw [mget_none hm] at hi
        have : idleA r.P now accZ = true := idle_iff.2 (by rw [accAt_zero]; exact ⟨rfl, rfl, rfl, rfl⟩)
        rw [this] at hi
        cases hi
      · exact ⟨(z, mget accZ m z), List.mem_filter.2 ⟨mget_some hm, by simp [hi]⟩, rfl⟩
  rw [key]
  have hacc := h.acc z _ (Nat.le_refl _)
  have ex : ∀ v, (∃ x ∈ L, hitB z v x = true) ↔ cntL L z v ≠ 0 := fun v => by
    unfold cntL
    rw [Ne, List.length_eq_zero_iff, List.filter_eq_nil_iff]
    constructor
    · rintro ⟨x, hx, h⟩ hn; exact hn x hx h
    · intro hn
      refine Classical.byContradiction fun hc => hn (fun x hx hh => hc ⟨x, hx, hh⟩)
  constructor
  · intro hi
    right
    refine Classical.byContradiction fun hc => ?_
    have hz : ∀ v, (v = now / r.P ∨ v + 1 = now / r.P) → cntL L z v = 0 := fun v hv => by
      refine Classical.byContradiction fun hne => ?_
      obtain ⟨x, hx, hh⟩ := (ex v).2 hne
      obtain ⟨e1, e2⟩ := hitB_iff.1 hh
      refine hc ⟨x, hx, ?_, e1⟩
      unfold nearB
      rw [Bool.or_eq_true, decide_eq_true_eq, decide_eq_true_eq, e2]
      exact hv
    have : idleA r.P now (mget accZ m z) = true := by
      rw [idle_iff, hacc]
      unfold accOf prevN
      have h0 := hz _ (.inl rfl)
      refine ⟨h0, byt_of_cnt h0, ?_, ?_⟩
      · dsimp only
        split
        · rfl
        · exact hz _ (.inr (Nat.sub_add_cancel (Nat.pos_of_ne_zero (by assumption))))
      · dsimp only
        split
        · rfl
        · exact byt_of_cnt (hz _ (.inr (Nat.sub_add_cancel (Nat.pos_of_ne_zero (by assumption)))))
    rw [this] at hi
    cases hi
  · rintro (h3 | ⟨x, hx, hn, rfl⟩)
    · cases h3
    · cases hi : idleA r.P now (mget accZ m x.c)
      · rfl
      · exfalso
        rw [idle_iff, hacc] at hi
        unfold accOf prevN at hi
        obtain ⟨i1, _, i3, _⟩ := hi
        dsimp only at i1 i3
        unfold nearB at hn
        rw [Bool.or_eq_true, decide_eq_true_eq, decide_eq_true_eq] at hn
        rcases hn with hn | hn
        · exact (ex _).1 ⟨x, hx, hitB_iff.2 ⟨rfl, hn⟩⟩ i1
        · rw [if_neg (by omega)] at i3
          exact (ex _).1 ⟨x, hx, hitB_iff.2 ⟨rfl, by omega⟩⟩ i3
end Go.Proofs.Ytnofpbhpnhbbpaa
