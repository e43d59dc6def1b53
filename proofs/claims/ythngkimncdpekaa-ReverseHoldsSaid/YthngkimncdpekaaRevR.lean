/- The document's index: what is right, what is wrong. -/
import Derived.Test.YthngkimncdpekaaRevQ
namespace Go.Proofs.Ythngkimncdpekaa
set_option linter.unusedVariables false

theorem sorted_eq : ∀ {l m : List Nat}, l.Pairwise (· < ·) → m.Pairwise (· < ·) → (∀ k, k ∈ l ↔ k ∈ m) → l = m
  | [], [], _, _, _ => rfl
  | [], y :: m, _, _, h => absurd ((h y).2 List.mem_cons_self) (by simp)
  | x :: l, [], _, _, h => absurd ((h x).1 List.mem_cons_self) (by simp)
  | x :: l, y :: m, hl, hm, h => by
    obtain ⟨l1, l2⟩ := List.pairwise_cons.1 hl
    obtain ⟨m1, m2⟩ := List.pairwise_cons.1 hm
    have e : x = y := by
      rcases List.mem_cons.1 ((h x).1 List.mem_cons_self) with h1 | h1
      · exact h1
      · rcases List.mem_cons.1 ((h y).2 List.mem_cons_self) with h2 | h2
        · exact h2.symm
        · have := m1 x h1
          have := l1 y h2
          omega
    subst e
    have := sorted_eq l2 m2 (fun k => by
      constructor
      · intro hk
        rcases List.mem_cons.1 ((h k).1 (List.mem_cons_of_mem _ hk)) with h1 | h1
        · have := l1 k hk; omega
        · exact h1
      · intro hk
        rcases List.mem_cons.1 ((h k).2 (List.mem_cons_of_mem _ hk)) with h1 | h1
        · have := m1 k hk; omega
        · exact h1)
    rw [this]
theorem filter_one {α : Type} [BEq α] [LawfulBEq α] (t : α) : ∀ {l : List α}, l.Nodup → l.filter (· == t) = if l.contains t = true then [t] else []
  | [], _ => rfl
  | x :: r, h => by
    obtain ⟨h1, h2⟩ := List.nodup_cons.1 h
    rw [List.filter_cons, filter_one t h2, List.contains_cons]
    by_cases e : x = t
    · subst e
      simp [h1]
    · have e1 : (x == t) = false := by simpa using e
      have e2 : (t == x) = false := by simpa using (fun e' => e e'.symm)
      rw [e1, e2]
      simp
section
variable {most R : Int} {d : Dx}
def hasT (t : List UInt8) (e : En) : Bool := e.live && e.tags.contains t
theorem rightX_is : ∀ {A : List En}, (∀ e ∈ A, e.tags.Nodup) → ∀ (t : List UInt8), rightX A t = (A.filter (hasT t)).map (·.id)
  | [], _, _ => rfl
  | e :: r, h, t => by
    have ih := rightX_is (A := r) (fun x hx => h x (List.mem_cons_of_mem _ hx)) t
    unfold rightX at ih ⊢
    rw [List.flatMap_cons, ih, List.filter_cons, filter_one t (h e List.mem_cons_self)]
    unfold hasT
    cases e.live
    · rfl
    · cases e.tags.contains t
      · rfl
      · rfl
theorem Iw.tagNum (h : Iw most R d) {e : En} (he : e ∈ d.all) (hl : e.live = true) {n : Nat} (hn : liveB d.nm n = true) : n ∈ e.nums ↔ (nmAt d.nm n).1 ∈ e.tags := by
  constructor
  · intro hm
    obtain ⟨i, hi⟩ := List.getElem?_of_mem hm
    obtain ⟨t, t1, t2⟩ := h.num e he hl i n hi
    rw [t2]
    exact List.mem_of_getElem? t1
  · intro hm
    obtain ⟨i, hi⟩ := List.getElem?_of_mem hm
    obtain ⟨hi', _⟩ := List.getElem?_eq_some_iff.1 hi
    have hlt : i < e.nums.length := by rw [(h.len e he).1]; exact hi'
    have hm2 : e.nums[i] ∈ e.nums := List.getElem_mem hlt
    obtain ⟨t, t1, t2⟩ := h.num e he hl i e.nums[i] (List.getElem?_eq_getElem hlt)
    rw [hi] at t1
    injection t1 with t1
    rw [← h.wf.dist n e.nums[i] hn (h.numLive he hl hm2) (t1.trans t2.symm)] at hm2
    exact hm2
theorem Iw.slot (h : Iw most R d) {e : En} (he : e ∈ d.all) (hl : e.live = true) (n : Nat) : (n, e.id) ∈ d.sl ↔ n ∈ e.nums := by
  have h1 := h.sl2 e he hl
  have : (n, e.id) ∈ d.sl ↔ (n, e.id) ∈ d.sl.filter (fun s => s.2 == e.id) := by simp
  rw [this, h1, List.mem_map]
  constructor
  · rintro ⟨m, hm, e2⟩
    injection e2 with e2
    exact e2 ▸ hm
  · intro hm
    exact ⟨n, hm, rfl⟩
theorem ofX_le (h : Iw most R d) (n : Nat) : (ofX d.sl n).Pairwise (· ≤ ·) := by
  unfold ofX
  rw [List.pairwise_map]
  exact h.srt.filter _
theorem ofX_count (S : List (Nat × Nat)) (n k : Nat) : (ofX S n).count k = ((S.filter fun s => s.2 == k).map (·.1)).count n := by
  induction S with
  | nil => rfl
  | cons s r ih =>
    rw [ofX_cons, List.filter_cons]
    by_cases h1 : s.1 = n
    · by_cases h2 : s.2 = k
      · rw [if_pos h1, if_pos (by simpa using h2), List.count_cons, List.map_cons, List.count_cons, ih]
        simp [h1, h2]
      · rw [if_pos h1, if_neg (by simpa using h2), List.count_cons, ih]
        simp [h2]
    · by_cases h2 : s.2 = k
      · rw [if_neg h1, if_pos (by simpa using h2), List.map_cons, List.count_cons, ih]
        simp [h1]
      · rw [if_neg h1, if_neg (by simpa using h2), ih]
theorem Iw.right (h : Iw most R d) {n : Nat} (hn : liveB d.nm n = true) : (ofX d.sl n).filter (fun k => liveE d.all k) = rightX d.all (nmAt d.nm n).1 := by
  rw [rightX_is (fun e he => (tagsB_is (h.len e he).2.2).2.2.2)]
  refine sorted_eq ?_ ?_ (fun k => ?_)
  · have h1 := (ofX_le h n).filter (fun k => liveE d.all k)
    have h2 : ((ofX d.sl n).filter (fun k => liveE d.all k)).Nodup := by
      rw [List.nodup_iff_count]
      intro k
      by_cases hk : liveE d.all k = true
      · obtain ⟨e, he, rfl, hl⟩ := liveE_iff.1 hk
        refine Nat.le_trans (List.Sublist.count_le _ List.filter_sublist) ?_
        rw [ofX_count, h.sl2 e he hl, List.map_map]
        have : (e.nums.map ((·.1) ∘ fun n => (n, e.id))) = e.nums := List.map_id _
        rw [this]
        exact List.nodup_iff_count.1 (h.len e he).2.1 n
      · rw [List.count_eq_zero_of_not_mem]
        · exact Nat.zero_le _
        · intro hm
          exact hk (List.mem_filter.1 hm).2
    exact (List.pairwise_and_iff.2 ⟨h1, h2⟩).imp (fun hab => Nat.lt_of_le_of_ne hab.1 hab.2)
  · rw [List.pairwise_map]
    exact h.ids.filter _
  · rw [List.mem_filter, ofX_mem, List.mem_map]
    constructor
    · rintro ⟨h1, h2⟩
      obtain ⟨e, he, rfl, hl⟩ := liveE_iff.1 h2
      refine ⟨e, List.mem_filter.2 ⟨he, ?_⟩, rfl⟩
      unfold hasT
      rw [hl, Bool.true_and, List.contains_iff_mem]
      exact (h.tagNum he hl hn).1 ((h.slot he hl n).1 h1)
    · rintro ⟨e, he, rfl⟩
      obtain ⟨he, ht⟩ := List.mem_filter.1 he
      unfold hasT at ht
      rw [Bool.and_eq_true, List.contains_iff_mem] at ht
      exact ⟨(h.slot he ht.1 n).2 ((h.tagNum he ht.1 hn).2 ht.2), liveE_iff.2 ⟨e, he, rfl, ht.1⟩⟩
/-- A tag that no name has: no live entry has it. -/
theorem Iw.right_none (h : Iw most R d) {t : List UInt8} (hf : findN d.nm t = none) : rightX d.all t = [] := by
  rw [rightX_is (fun e he => (tagsB_is (h.len e he).2.2).2.2.2), List.map_eq_nil_iff, List.filter_eq_nil_iff]
  intro e he ht
  unfold hasT at ht
  rw [Bool.and_eq_true, List.contains_iff_mem] at ht
  obtain ⟨i, hi⟩ := List.getElem?_of_mem ht.2
  obtain ⟨hi', _⟩ := List.getElem?_eq_some_iff.1 hi
  have hlt : i < e.nums.length := by rw [(h.len e he).1]; exact hi'
  obtain ⟨t', t1, t2⟩ := h.num e he ht.1 i e.nums[i] (List.getElem?_eq_getElem hlt)
  rw [hi] at t1
  injection t1 with t1
  exact findN_none hf _ (h.numLive he ht.1 (List.getElem_mem hlt)) (t2.trans t1.symm)
/-- A name has a live entry. -/
theorem Iw.right_ne (h : Iw most R d) {n : Nat} (hn : liveB d.nm n = true) : rightX d.all (nmAt d.nm n).1 ≠ [] := by
  rw [← h.right hn]
  have h0 := hn
  unfold liveB at h0
  rw [h.refs n, decide_eq_true_eq] at h0
  have h1 : 0 < d.all.countP (fun e => e.live && e.nums.contains n) := by omega
  obtain ⟨e, he, h2⟩ := List.countP_pos_iff.1 h1
  rw [Bool.and_eq_true, List.contains_iff_mem] at h2
  intro e0
  have : e.id ∈ (ofX d.sl n).filter (fun k => liveE d.all k) := List.mem_filter.2 ⟨ofX_mem.2 ((h.slot he h2.1 n).2 h2.2), liveE_iff.2 ⟨e, he, rfl, h2.1⟩⟩
  rw [e0] at this
  cases this
theorem wrong_congr {A A' : List En} {S : List (Nat × Nat)} (h : ∀ s ∈ S, liveE A s.2 = liveE A' s.2) : wrongX A S = wrongX A' S := by
  unfold wrongX
  exact List.countP_congr (fun s hs => by simp only [h s hs])
theorem Iw.wrong_add (h : Iw most R d) {id : Nat} {ts : List (List UInt8)} (hid : lastE d.all < id) (ns : List Nat) : wrongX (d.all ++ [⟨id, ts, ns, true⟩]) (d.sl ++ ns.map (fun n => (n, id))) = wrongX d.all d.sl := by
  unfold wrongX
  rw [List.countP_append]
  have e1 : (ns.map (fun n => (n, id))).countP (fun s => !liveE (d.all ++ [⟨id, ts, ns, true⟩]) s.2) = 0 := by
    rw [List.countP_eq_zero]
    intro s hs
    obtain ⟨n, _, rfl⟩ := List.mem_map.1 hs
    rw [liveE_snoc rfl]
    simp
  rw [e1, Nat.add_zero]
  refine List.countP_congr (fun s hs => ?_)
  obtain ⟨e, he, e2⟩ := h.sl1 s hs
  have h1 := last_le h.ids he
  rw [liveE_snoc rfl]
  have e3 : (id == s.2) = false := by simp; omega
  show (!(liveE d.all s.2 || id == s.2)) = true ↔ _
  rw [e3, Bool.or_false]
theorem Iw.wrong_drop (h : Iw most R d) {e : En} (he : e ∈ d.all) (hl : e.live = true) : wrongX (d.all.map (deadE e.id)) d.sl = wrongX d.all d.sl + e.nums.length := by
  unfold wrongX
  have h1 : e.nums.length = d.sl.countP (fun s => s.2 == e.id) := by
    rw [List.countP_eq_length_filter, h.sl2 e he hl, List.length_map]
  rw [h1]
  have hlv : liveE d.all e.id = true := liveE_iff.2 ⟨e, he, rfl, hl⟩
  clear h1 h
  induction d.sl with
  | nil => rfl
  | cons s r ih =>
    rw [List.countP_cons, List.countP_cons, List.countP_cons, ih, liveE_dead]
    by_cases e2 : s.2 = e.id
    · rw [e2, hlv]
      simp
      omega
    · have e3 : (s.2 == e.id) = false := by simpa using e2
      rw [e3]
      simp
      omega
theorem wrong_cut {A : List En} {S : List (Nat × Nat)} {n i k : Nat} (h : (ofX S n)[i]? = some k) (hl : ¬ liveE A k = true) : wrongX A S = wrongX A (cutL n S i) + 1 := by
  unfold wrongX
  rw [cutL_count _ n S i k h]
  have : (!liveE A k) = true := by simpa using hl
  rw [if_pos this]
theorem wrong_le (A : List En) (S : List (Nat × Nat)) : wrongX A S ≤ S.length := List.countP_le_length
/-- The lowest number that has slots. -/
theorem nextX_some {S : List (Nat × Nat)} {k n : Nat} (h : nextX S k = some n) : k ≤ n ∧ ofX S n ≠ [] ∧ ∀ m, k ≤ m → ofX S m ≠ [] → n ≤ m := by
  unfold nextX at h
  rw [List.min?_eq_some_iff] at h
  obtain ⟨h1, h2⟩ := h
  obtain ⟨h3, h4⟩ := List.mem_filter.1 h1
  obtain ⟨s, hs, rfl⟩ := List.mem_map.1 h3
  refine ⟨by simpa using h4, fun e0 => ?_, fun m hm hne => h2 m (List.mem_filter.2 ⟨?_, by simpa using hm⟩)⟩
  · have := ofX_mem.2 (show (s.1, s.2) ∈ S from hs)
    rw [e0] at this
    cases this
  · obtain ⟨j, hj⟩ := List.exists_mem_of_ne_nil _ hne
    exact List.mem_map.2 ⟨_, ofX_mem.1 hj, rfl⟩
theorem nextX_none {S : List (Nat × Nat)} {k : Nat} (h : nextX S k = none) : ∀ m, k ≤ m → ofX S m = [] := by
  unfold nextX at h
  rw [List.min?_eq_none_iff, List.filter_eq_nil_iff] at h
  intro m hm
  cases he : ofX S m with
  | nil => rfl
  | cons j r =>
    exfalso
    have : j ∈ ofX S m := by rw [he]; exact List.mem_cons_self
    exact h m (List.mem_map.2 ⟨_, ofX_mem.1 this, rfl⟩) (by simpa using hm)
theorem nextX_eq {S : List (Nat × Nat)} {k n : Nat} (h1 : k ≤ n) (h2 : ofX S n ≠ []) (h3 : ∀ m, k ≤ m → ofX S m ≠ [] → n ≤ m) : nextX S k = some n := by
  cases h : nextX S k with
  | none => exact absurd (nextX_none h n h1) h2
  | some m =>
    obtain ⟨a, b, c⟩ := nextX_some h
    have := c n h1 h2
    have := h3 m a b
    congr 1
    omega
theorem nextX_eqn {S : List (Nat × Nat)} {k : Nat} (h : ∀ m, k ≤ m → ofX S m = []) : nextX S k = none := by
  cases h1 : nextX S k with
  | none => rfl
  | some n =>
    obtain ⟨a, b, c⟩ := nextX_some h1
    exact absurd (h n a) b
end
end Go.Proofs.Ythngkimncdpekaa
