/- Many entries with the same tags: what the index is. -/
import Derived.Test.YtfpkeinknhijaaaGreatRevR
namespace Go.Proofs.YtfpkeinknhijaaaGreat
set_option linter.unusedVariables false

def mL : List (List UInt8) := [[97], [98], [99], [100], [101]]
def mt (T : Nat) : List (List UInt8) := mL.take T
def mnm (T k : Nat) : Nms := if k = 0 then [] else (mt T).map (fun s => (s, (k : Int)))
/-- The entries when k were added, of which those are dead whose number is a multiple below m and above cur. -/
def mAll (T k m every : Nat) (cur : Int) : List En := (List.range k).map (fun i => ⟨i + 1, mt T, List.range T, !decide ((m - (i + 1)) % every = 0 ∧ cur < ((i + 1 : Nat) : Int))⟩)
def mA0 (T k : Nat) : List En := (List.range k).map (fun i => ⟨i + 1, mt T, List.range T, true⟩)
def mSl (T k : Nat) : List (Nat × Nat) := (List.range k).flatMap (fun i => (List.range T).map (fun j => (j, i + 1)))
def mD0 (T k : Nat) : Dx := ⟨mnm T k, mA0 T k, mSl T k⟩
theorem mA0_len (T k : Nat) : (mA0 T k).length = k := by simp [mA0]
theorem mSl_len (T k : Nat) : (mSl T k).length = k * T := by
  unfold mSl
  induction k with
  | zero => simp
  | succ k ih => rw [List.range_succ, List.flatMap_append, List.length_append, ih]; simp [Nat.succ_mul]
theorem mt_len {T : Nat} (h : T ≤ 5) : (mt T).length = T := by
  unfold mt
  rw [List.length_take]
  show min T 5 = T
  omega
theorem adds_k {T : Nat} (h1 : 1 ≤ T) (h5 : T ≤ 5) (k : Nat) : addsM 5 (mnm T k) (mt T) = (mnm T (k + 1), List.range T, 0) := by
  by_cases hk : k = 0
  · subst hk
    match T, h1, h5 with
    | 1, _, _ => decide +kernel
    | 2, _, _ => decide +kernel
    | 3, _, _ => decide +kernel
    | 4, _, _ => decide +kernel
    | 5, _, _ => decide +kernel
  · have hkn : 0 < k := by omega
    match T, h1, h5 with
    | 1, _, _ => simp [mnm, mt, mL, addsM, addM, validB, findN, liveX, List.findIdx?_cons, nmAt, hk, hkn, List.range_succ]
    | 2, _, _ => simp [mnm, mt, mL, addsM, addM, validB, findN, liveX, List.findIdx?_cons, nmAt, hk, hkn, List.range_succ]
    | 3, _, _ => simp [mnm, mt, mL, addsM, addM, validB, findN, liveX, List.findIdx?_cons, nmAt, hk, hkn, List.range_succ]
    | 4, _, _ => simp [mnm, mt, mL, addsM, addM, validB, findN, liveX, List.findIdx?_cons, nmAt, hk, hkn, List.range_succ]
    | 5, _, _ => simp [mnm, mt, mL, addsM, addM, validB, findN, liveX, List.findIdx?_cons, nmAt, hk, hkn, List.range_succ]
theorem mtags {T : Nat} (h5 : T ≤ 5) : tagsB (mt T) = true := by
  match T, h5 with
  | 0, _ => decide +kernel
  | 1, _ => decide +kernel
  | 2, _ => decide +kernel
  | 3, _ => decide +kernel
  | 4, _ => decide +kernel
  | 5, _ => decide +kernel
theorem mlast (T k : Nat) : lastE (mA0 T k) = k := by
  cases k with
  | zero => rfl
  | succ k => unfold lastE mA0; rw [List.range_succ]; simp
/-- The next entry is added. -/
theorem madd {T : Nat} (h1 : 1 ≤ T) (h5 : T ≤ 5) (k : Nat) : (mD0 T k).add 5 (k + 1) (mt T) = (mD0 T (k + 1), List.range T, 0) := by
  unfold Dx.add
  have ha : addsM 5 (mD0 T k).nm (mt T) = (mnm T (k + 1), List.range T, 0) := adds_k h1 h5 k
  rw [if_neg (by
    rintro (h | h)
    · have := mlast T k
      change k + 1 ≤ lastE (mA0 T k) at h
      omega
    · rw [mtags h5] at h; cases h), ha, if_pos rfl]
  unfold mD0 mA0 mSl
  simp only [List.range_succ, List.map_append, List.flatMap_append, List.map_cons, List.map_nil, List.flatMap_cons, List.flatMap_nil, List.append_nil]
theorem mAll_start (T m every : Nat) : mA0 T m = mAll T m m every (m : Int) := by
  unfold mA0 mAll
  apply List.map_congr_left
  intro i hi
  have := List.mem_range.1 hi
  rw [decide_eq_false (by omega)]
  rfl
theorem getE_mAll {T m every : Nat} {cur : Int} {i : Nat} (hi : i < m) (hd : ¬ ((m - (i + 1)) % every = 0 ∧ cur < ((i + 1 : Nat) : Int))) : getE (mAll T m m every cur) (i + 1) = some ⟨i + 1, mt T, List.range T, true⟩ := by
  have hp : (mAll T m m every cur).Pairwise (fun x y => x.id < y.id) := by
    unfold mAll
    rw [List.pairwise_map]
    exact List.pairwise_lt_range.imp (fun h => by simpa using h)
  refine getE_of (e := ⟨i + 1, mt T, List.range T, true⟩) hp ?_ rfl
  unfold mAll
  exact List.mem_map.2 ⟨i, List.mem_range.2 hi, by rw [decide_eq_false hd]; rfl⟩
/-- An entry is dropped. -/
theorem mdrop {T m every i : Nat} (he : 1 ≤ every) (hi : i < m) (hm : (m - (i + 1)) % every = 0) {d : Dx} (hd : d.all = mAll T m m every ((i + 1 : Nat) : Int)) :
    ∃ d' ns, d.drop (i + 1) = (d', ns, 0) ∧ d'.all = mAll T m m every (((i + 1 : Nat) : Int) - (every : Int)) ∧ d'.sl = d.sl ∧ ns.length ≤ T := by
  have hg : getE d.all (i + 1) = some ⟨i + 1, mt T, List.range T, true⟩ := by rw [hd]; exact getE_mAll hi (fun h => by omega)
  have hdr : d.drop (i + 1) = (⟨(relsM d.nm (List.range T)).1, d.all.map (deadE (i + 1)), d.sl⟩, (relsM d.nm (List.range T)).2, 0) := by
    unfold Dx.drop; rw [hg]
  refine ⟨_, _, hdr, ?_, rfl, ?_⟩
  · rw [hd]
    unfold mAll
    rw [List.map_map]
    apply List.map_congr_left
    intro j hj
    have hj2 := List.mem_range.1 hj
    simp only [Function.comp_apply, deadE]
    by_cases hij : j = i
    · subst hij
      rw [if_pos rfl, decide_eq_true (by constructor; exact hm; omega)]
      rfl
    · rw [if_neg (by simp; omega)]
      congr 2
      apply decide_eq_decide.2
      constructor
      · rintro ⟨h1, h2⟩; exact ⟨h1, by omega⟩
      · rintro ⟨h1, h2⟩
        refine ⟨h1, ?_⟩
        apply Classical.byContradiction
        intro h3
        have h4 : j < i := by omega
        have h5 : i - j < every := by omega
        have h6 : m - (j + 1) = (m - (i + 1)) + (i - j) := by omega
        rw [h6] at h1
        rw [Nat.add_mod, hm, Nat.zero_add, Nat.mod_mod, Nat.mod_eq_of_lt h5] at h1
        omega
  · have : ∀ (ns : List Nat) (l : Nms), (relsM l ns).2.length ≤ ns.length := by
      intro ns
      induction ns with
      | nil => intro l; exact Nat.le_refl _
      | cons n r ih =>
        intro l
        simp only [relsM]
        have := ih (relM l (n : Int)).1
        split
        · simp only [List.length_cons]; omega
        · simp only [List.length_cons]; omega
    have := this (List.range T) d.nm
    rw [List.length_range] at this
    exact this
/-- What is kept when all wrong slots of the number n are cut. -/
def keepN (A : List En) (n : Nat) (s : Nat × Nat) : Bool := s.1 != n || liveE A s.2
def cutsD (n : Nat) : Nat → Dx → Dx
  | 0, d => d
  | m + 1, d => cutsD n m (d.cut (n : Int) (m : Int)).1
theorem ofX_cutL (n : Nat) : ∀ (S : List (Nat × Nat)) (i : Nat), ofX (cutL n S i) n = (ofX S n).eraseIdx i
  | [], i => by simp [cutL, ofX]
  | s :: r, i => by
    unfold cutL
    by_cases hs : s.1 = n
    · rw [if_pos hs]
      cases i with
      | zero => simp [ofX, hs]
      | succ i =>
        have := ofX_cutL n r i
        simp only [ofX] at this ⊢
        simp [hs, this]
    · rw [if_neg hs]
      have := ofX_cutL n r i
      simp only [ofX] at this ⊢
      simp [hs, this]
theorem filter_cutL (A : List En) (n : Nat) : ∀ (S : List (Nat × Nat)) (i id : Nat), (ofX S n)[i]? = some id → liveE A id = false → (cutL n S i).filter (keepN A n) = S.filter (keepN A n)
  | [], i, id, h, _ => by simp [ofX] at h
  | s :: r, i, id, h, hl => by
    unfold cutL
    by_cases hs : s.1 = n
    · rw [if_pos hs]
      cases i with
      | zero =>
        simp [ofX, hs] at h
        rw [List.filter_cons, if_neg (by unfold keepN; rw [h, hl]; simp [hs])]
      | succ i =>
        have h2 : (ofX r n)[i]? = some id := by simpa [ofX, hs] using h
        have := filter_cutL A n r i id h2 hl
        simp only [List.filter_cons, this]
    · rw [if_neg hs]
      have h2 : (ofX r n)[i]? = some id := by simpa [ofX, hs] using h
      have := filter_cutL A n r i id h2 hl
      simp only [List.filter_cons, this]
theorem cutsD_is {n : Nat} (hn : n < 65536) : ∀ (m : Nat) (d : Dx), (∀ b id, m ≤ b → (ofX d.sl n)[b]? = some id → liveE d.all id = true) → cutsD n m d = ⟨d.nm, d.all, d.sl.filter (keepN d.all n)⟩
  | 0, d, h => by
    unfold cutsD
    have : d.sl.filter (keepN d.all n) = d.sl := by
      rw [List.filter_eq_self]
      intro s hs
      unfold keepN
      by_cases hsn : s.1 = n
      · have hm : s.2 ∈ ofX d.sl n := by
          unfold ofX
          exact List.mem_map.2 ⟨s, List.mem_filter.2 ⟨hs, by simp [hsn]⟩, rfl⟩
        obtain ⟨b, hb⟩ := List.mem_iff_getElem?.1 hm
        rw [h b _ (Nat.zero_le _) hb]
        simp
      · simp [hsn]
    rw [this]
  | m + 1, d, h => by
    unfold cutsD
    have hnb : numB (n : Int) = true := by unfold numB; simp; omega
    cases hx : (ofX d.sl n)[m]? with
    | none =>
      have hc : d.cut (n : Int) (m : Int) = (d, false, 9) := by
        unfold Dx.cut
        rw [if_pos hnb, if_pos (by omega), Int.toNat_natCast, Int.toNat_natCast, hx]
      rw [hc]
      refine cutsD_is hn m d (fun b id hb hid => ?_)
      by_cases hbm : b = m
      · subst hbm; rw [hx] at hid; cases hid
      · exact h b id (by omega) hid
    | some id0 =>
      cases hl : liveE d.all id0 with
      | true =>
        have hc : d.cut (n : Int) (m : Int) = (d, false, 0) := by
          unfold Dx.cut
          rw [if_pos hnb, if_pos (by omega), Int.toNat_natCast, Int.toNat_natCast, hx]
          simp [hl]
        rw [hc]
        refine cutsD_is hn m d (fun b id hb hid => ?_)
        by_cases hbm : b = m
        · subst hbm; rw [hx] at hid; cases hid; exact hl
        · exact h b id (by omega) hid
      | false =>
        have hc : d.cut (n : Int) (m : Int) = (⟨d.nm, d.all, cutL n d.sl m⟩, true, 0) := by
          unfold Dx.cut
          rw [if_pos hnb, if_pos (by omega), Int.toNat_natCast, Int.toNat_natCast, hx]
          simp [hl]
        rw [hc]
        have := cutsD_is hn m ⟨d.nm, d.all, cutL n d.sl m⟩ (fun b id hb hid => by
          simp only at hid ⊢
          rw [ofX_cutL, List.getElem?_eraseIdx, if_neg (by omega)] at hid
          exact h (b + 1) id (by omega) hid)
        rw [this]
        simp only [Dx.mk.injEq, true_and]
        exact filter_cutL d.all n d.sl m id0 hx hl
/-- The slots when the wrong ones of the numbers below j are cut. -/
def mSlj (A : List En) (T k j : Nat) : List (Nat × Nat) := (mSl T k).filter (fun s => decide (j ≤ s.1) || liveE A s.2)
theorem mSlj_zero (A : List En) (T k : Nat) : mSlj A T k 0 = mSl T k := by
  unfold mSlj
  rw [List.filter_eq_self]
  intro s hs
  simp
theorem mSlj_next (A : List En) (T k j : Nat) : (mSlj A T k j).filter (keepN A j) = mSlj A T k (j + 1) := by
  unfold mSlj
  rw [List.filter_filter]
  congr 1
  funext s
  unfold keepN
  cases liveE A s.2 with
  | true => simp
  | false =>
    simp only [Bool.or_false]
    rw [Bool.eq_iff_iff]
    simp only [Bool.and_eq_true, bne_iff_ne, decide_eq_true_eq]
    constructor
    · rintro ⟨h1, h2⟩; omega
    · intro h; exact ⟨by omega, by omega⟩
theorem mSl_ofX (A : List En) (T k j n : Nat) : (ofX (mSlj A T k j) n).length ≤ k := by
  have h1 : (ofX (mSlj A T k j) n).length ≤ (ofX (mSl T k) n).length := by
    unfold ofX mSlj
    rw [List.length_map, List.length_map]
    exact (List.Sublist.filter _ List.filter_sublist).length_le
  refine Nat.le_trans h1 ?_
  unfold mSl
  clear h1
  induction k with
  | zero => simp [ofX]
  | succ k ih =>
    rw [List.range_succ, List.flatMap_append]
    unfold ofX at ih ⊢
    rw [List.filter_append, List.map_append, List.length_append]
    have : ((([k] : List Nat).flatMap fun i => (List.range T).map fun j => (j, i + 1)).filter (fun s => s.1 == n)).length ≤ 1 := by
      simp only [List.flatMap_cons, List.flatMap_nil, List.append_nil]
      rw [List.filter_map, List.length_map]
      have h2 : (List.range T).filter ((fun s : Nat × Nat => s.1 == n) ∘ fun j => (j, k + 1)) = (List.range T).filter (fun j => j == n) := rfl
      rw [h2, ← List.countP_eq_length_filter]
      exact List.nodup_iff_count.1 List.nodup_range n
    rw [List.length_map] at ih
    rw [List.length_map, List.length_map]
    omega
theorem mSlj_len (A : List En) (T k j : Nat) : (mSlj A T k j).length ≤ k * T := by
  rw [← mSl_len]; exact List.length_filter_le _ _
/-- At the end no slot is wrong. -/
theorem mSlj_end (A : List En) (T k : Nat) : wrongX A (mSlj A T k T) = 0 ∧ (mSlj A T k T).length = T * (List.range k).countP (fun i => liveE A (i + 1)) := by
  have hs : mSlj A T k T = (mSl T k).filter (fun s => liveE A s.2) := by
    unfold mSlj
    apply List.filter_congr
    intro s hs
    unfold mSl at hs
    obtain ⟨i, -, hi⟩ := List.mem_flatMap.1 hs
    obtain ⟨j, hj, rfl⟩ := List.mem_map.1 hi
    have := List.mem_range.1 hj
    simp; omega
  rw [hs]
  constructor
  · unfold wrongX
    rw [List.countP_eq_zero]
    intro s hs
    have := (List.mem_filter.1 hs).2
    simp [this]
  · unfold mSl
    induction k with
    | zero => simp
    | succ k ih =>
      have hs' : mSlj A T k T = (mSl T k).filter (fun s => liveE A s.2) := by
        unfold mSlj
        apply List.filter_congr
        intro s hs
        unfold mSl at hs
        obtain ⟨i, -, hi⟩ := List.mem_flatMap.1 hs
        obtain ⟨j, hj, rfl⟩ := List.mem_map.1 hi
        have := List.mem_range.1 hj
        simp; omega
      have ih := ih hs'
      rw [List.range_succ, List.flatMap_append, List.filter_append, List.length_append, ih, List.countP_append]
      simp only [List.flatMap_cons, List.flatMap_nil, List.append_nil]
      rw [List.filter_map]
      cases hl : liveE A (k + 1) with
      | true =>
        have : (List.range T).filter ((fun s : Nat × Nat => liveE A s.2) ∘ fun j => (j, k + 1)) = List.range T := by
          rw [List.filter_eq_self]; intro j _; exact hl
        rw [this]
        simp [hl, Nat.mul_add]
      | false =>
        have : (List.range T).filter ((fun s : Nat × Nat => liveE A s.2) ∘ fun j => (j, k + 1)) = [] := by
          rw [List.filter_eq_nil_iff]; intro j _; simp [hl]
        rw [this]
        simp [hl]
theorem live_mAll {T m every : Nat} {cur : Int} (hc : cur ≤ 0) {i : Nat} (hi : i < m) : liveE (mAll T m m every cur) (i + 1) = !decide ((m - (i + 1)) % every = 0) := by
  by_cases hd : (m - (i + 1)) % every = 0
  · rw [decide_eq_true hd]
    cases hl : liveE (mAll T m m every cur) (i + 1) with
    | false => rfl
    | true =>
      obtain ⟨e, he, h1, h2⟩ := liveE_iff.1 hl
      unfold mAll at he
      obtain ⟨j, hj, rfl⟩ := List.mem_map.1 he
      simp only at h1 h2
      obtain rfl : j = i := by omega
      rw [decide_eq_true ⟨hd, by omega⟩] at h2
      cases h2
  · rw [decide_eq_false hd]
    unfold liveE
    rw [getE_mAll hi (fun h => hd h.1)]
    rfl
theorem mcount : ∀ m, m < 151 → ∀ e, e < 10 → 0 < e → (List.range m).countP (fun i => !decide ((m - (i + 1)) % e = 0)) = m - (m + e - 1) / e := by decide +kernel
theorem mfinal {T m every : Nat} {cur : Int} (hm : m ≤ 150) (he : 1 ≤ every) (he9 : every ≤ 9) (hc : cur ≤ 0) :
    wrongX (mAll T m m every cur) (mSlj (mAll T m m every cur) T m T) = 0 ∧ (mSlj (mAll T m m every cur) T m T).length = T * (m - (m + every - 1) / every) := by
  obtain ⟨h1, h2⟩ := mSlj_end (mAll T m m every cur) T m
  refine ⟨h1, ?_⟩
  rw [h2, ← mcount m (by omega) every (by omega) (by omega)]
  congr 1
  apply List.countP_congr
  intro i hi
  rw [live_mAll hc (List.mem_range.1 hi)]
end Go.Proofs.YtfpkeinknhijaaaGreat
