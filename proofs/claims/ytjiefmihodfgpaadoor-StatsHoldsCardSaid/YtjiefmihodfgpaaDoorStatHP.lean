/- The plain law of StatsHolds: counts that do not come near the greatest number. -/
import Derived.Test.YtjiefmihodfgpaaDoorStatNP
namespace Go.Proofs.YtjiefmihodfgpaaDoor

def Le16 (l : List Int) (M : Int) : Prop := l.length = 16 ∧ ∀ i, i < 16 → 0 ≤ l.getD i 0 ∧ l.getD i 0 ≤ M
theorem raiseL_get {l : List Int} {M : Int} (h : Le16 l M) (j : Nat) (n : Int) (hM : M + n ≤ 18446744073709551615) (i : Nat) (hi : i < 16) :
    (raiseL l j n).getD i 0 = l.getD i 0 + (if i = j then n else 0) := by
  unfold raiseL
  rw [List.getD_eq_getElem?_getD, List.getD_eq_getElem?_getD, List.getElem?_set]
  by_cases e : i = j
  · subst e
    have h2 := (h.2 i hi).2
    rw [if_pos rfl, if_pos rfl, if_pos (by rw [h.1]; exact hi)]
    simp only [Option.getD_some]
    rw [List.getD_eq_getElem?_getD] at h2 ⊢
    unfold plus64
    rw [if_pos (by omega)]
  · rw [if_neg (fun h => e h.symm), if_neg e, Int.add_zero, List.getD_eq_getElem?_getD]
theorem raiseL_Le {l : List Int} {M : Int} (h : Le16 l M) (j : Nat) (n : Int) (hn : 0 ≤ n) (hM : M + n ≤ 18446744073709551615) : Le16 (raiseL l j n) (M + n) := by
  refine ⟨by rw [raiseL_len]; exact h.1, fun i hi => ?_⟩
  rw [raiseL_get h j n hM i hi]
  have := h.2 i hi
  split <;> omega
theorem raiseI_get {l : List Int} {M : Int} (h : Le16 l M) (p n : Int) (hM : M + n ≤ 18446744073709551615) (i : Nat) (hi : i < 16) :
    (raiseI l p n).getD i 0 = l.getD i 0 + (if (i : Int) = p then n else 0) := by
  unfold raiseI
  by_cases hp : p < 0
  · rw [if_pos hp, if_neg (by omega), Int.add_zero]
  · rw [if_neg hp, raiseL_get h _ n hM i hi]
    congr 1
    by_cases e : i = p.toNat
    · rw [if_pos e, if_pos (by omega)]
    · rw [if_neg e, if_neg (by omega)]
theorem raiseI_Le {l : List Int} {M : Int} (h : Le16 l M) (p n : Int) (hn : 0 ≤ n) (hM : M + n ≤ 18446744073709551615) : Le16 (raiseI l p n) (M + n) := by
  refine ⟨by rw [raiseI_len]; exact h.1, fun i hi => ?_⟩
  rw [raiseI_get h p n hM i hi]
  have := h.2 i hi
  split <;> omega
def markD : List Int → Nat → Int
  | [], _ => 0
  | m :: ms, i => (if i = markPlace m then 1 else 0) + markD ms i
theorem markD_cons (m : Int) (ms : List Int) (i : Nat) : markD (m :: ms) i = (if i = markPlace m then 1 else 0) + markD ms i := rfl
theorem markD_le (ms : List Int) (i : Nat) : 0 ≤ markD ms i ∧ markD ms i ≤ ms.length := by
  induction ms with
  | nil => simp [markD]
  | cons m ms ih =>
    have e : ((m :: ms).length : Int) = (ms.length : Int) + 1 := by simp
    rw [e, markD_cons]
    split <;> omega
theorem marksL_get (ms : List Int) : ∀ {l : List Int} {M : Int}, Le16 l M → M + ms.length ≤ 18446744073709551615 → (∀ i, i < 16 → (marksL l ms).getD i 0 = l.getD i 0 + markD ms i) ∧ Le16 (marksL l ms) (M + ms.length) := by
  induction ms with
  | nil =>
    intro l M h _
    refine ⟨fun i _ => by simp [marksL, markD], ?_⟩
    simpa [marksL] using h
  | cons m ms ih =>
    intro l M h hM
    have e : ((m :: ms).length : Int) = (ms.length : Int) + 1 := by simp
    rw [e] at hM
    obtain ⟨h1, h2⟩ := ih (raiseL_Le h (markPlace m) 1 (by decide) (by omega)) (by omega)
    refine ⟨fun i hi => ?_, ?_⟩
    · have := h1 i hi
      rw [raiseL_get h (markPlace m) 1 (by omega) i hi] at this
      unfold marksL at this ⊢
      rw [List.foldl_cons, this, markD_cons]
      omega
    · rw [e, show M + ((ms.length : Int) + 1) = M + 1 + (ms.length : Int) by omega]
      unfold marksL at h2 ⊢
      rw [List.foldl_cons]
      exact h2
theorem markD_three (ms : List Int) : (ms.length : Int) = markD ms 3 + markD ms 4 + markD ms 5 ∧ markD ms 2 = 0 := by
  induction ms with
  | nil => simp [markD]
  | cons m ms ih =>
    have e : ((m :: ms).length : Int) = (ms.length : Int) + 1 := by simp
    have hp : markPlace m = 3 ∨ markPlace m = 4 ∨ markPlace m = 5 := by
      unfold markPlace
      split
      · exact .inl rfl
      · split
        · exact .inr (.inl rfl)
        · exact .inr (.inr rfl)
    rw [e, markD_cons, markD_cons, markD_cons, markD_cons]
    rcases hp with hp | hp | hp <;> rw [hp] <;> simp <;> omega
def nD (op : Nat) (cnt : Int) (ms : List Int) (i : Nat) : Int :=
  (if i = 0 then 1 else 0) + (if i = 2 then (ms.length : Int) else 0) + markD ms i + (if (i : Int) = rowOne op then 1 else 0) + (if (i : Int) = rowCnt op then cnt else 0)
theorem notedL_get {l : List Int} {M : Int} (h : Le16 l M) (hM : M ≤ 1152921504606846976) (op : Nat) (cnt : Int) (hc0 : 0 ≤ cnt) (hc : cnt ≤ 4294967296) (ms : List Int) (hm : ms.length ≤ 20) (i : Nat) (hi : i < 16) :
    (notedL l op cnt ms).getD i 0 = l.getD i 0 + nD op cnt ms i := by
  have a1 := raiseL_Le h 0 1 (by decide) (by omega)
  have a2 := raiseL_Le a1 2 (ms.length : Int) (by omega) (by omega)
  have a3 := marksL_get ms a2 (by omega)
  have a4 := raiseI_Le a3.2 (rowOne op) 1 (by decide) (by omega)
  unfold notedL nD
  rw [raiseI_get a4 _ _ (by omega) i hi, raiseI_get a3.2 _ _ (by omega) i hi, a3.1 i hi, raiseL_get a1 _ _ (by omega) i hi, raiseL_get h _ _ (by omega) i hi]
  omega
theorem nD_le (op : Nat) (cnt : Int) (hc0 : 0 ≤ cnt) (hc : cnt ≤ 4294967296) (ms : List Int) (hm : ms.length ≤ 20) (i : Nat) : 0 ≤ nD op cnt ms i ∧ nD op cnt ms i ≤ 8589934592 := by
  have h := markD_le ms i
  unfold nD
  split <;> split <;> split <;> split <;> omega
theorem rows_far (op : Nat) (h : op < 16) : ∀ q : Fin 4, rowOne op ≠ (q.val + 2 : Nat) ∧ rowCnt op ≠ (q.val + 2 : Nat) := by
  have : ∀ o : Fin 16, ∀ q : Fin 4, rowOne o.val ≠ (q.val + 2 : Nat) ∧ rowCnt o.val ≠ (q.val + 2 : Nat) := by decide +kernel
  exact this ⟨op, h⟩
theorem nD_items (op : Nat) (h : op < 16) (cnt : Int) (ms : List Int) : nD op cnt ms 2 = nD op cnt ms 3 + nD op cnt ms 4 + nD op cnt ms 5 := by
  have h2 := rows_far op h 0
  have h3 := rows_far op h 1
  have h4 := rows_far op h 2
  have h5 := rows_far op h 3
  have e := markD_three ms
  unfold nD
  have k2 : ¬ ((2 : Nat) : Int) = rowOne op := fun e => h2.1 e.symm
  have k3 : ¬ ((3 : Nat) : Int) = rowOne op := fun e => h3.1 e.symm
  have k4 : ¬ ((4 : Nat) : Int) = rowOne op := fun e => h4.1 e.symm
  have k5 : ¬ ((5 : Nat) : Int) = rowOne op := fun e => h5.1 e.symm
  have j2 : ¬ ((2 : Nat) : Int) = rowCnt op := fun e => h2.2 e.symm
  have j3 : ¬ ((3 : Nat) : Int) = rowCnt op := fun e => h3.2 e.symm
  have j4 : ¬ ((4 : Nat) : Int) = rowCnt op := fun e => h4.2 e.symm
  have j5 : ¬ ((5 : Nat) : Int) = rowCnt op := fun e => h5.2 e.symm
  rw [if_neg k2, if_neg k3, if_neg k4, if_neg k5, if_neg j2, if_neg j3, if_neg j4, if_neg j5]
  simp
  omega
/-- What a response raises. -/
def noteD (op err cnt : Int) (ms : List Int) (i : Nat) : Int := if rightR op cnt ms = true then (if err = 0 then nD op.toNat cnt ms i else if i = 1 then 1 else 0) else 0
def noteE (op cnt : Int) (ms : List Int) : Int := if rightR op cnt ms = true then 0 else 2
theorem noteR_snd (l : List Int) (op err cnt : Int) (ms : List Int) : (noteR l op err cnt ms).2 = noteE op cnt ms := by
  unfold noteR noteE
  split
  · split <;> rfl
  · rfl
theorem rightR_parts {op cnt : Int} {ms : List Int} (h : rightR op cnt ms = true) : 1 ≤ op ∧ op ≤ 15 ∧ 0 ≤ cnt := by
  simp only [rightR, Bool.and_eq_true, decide_eq_true_eq] at h
  exact ⟨h.1.1.1, h.1.1.2, h.1.2⟩
theorem noteR_get {l : List Int} {M : Int} (h : Le16 l M) (hM : M ≤ 1152921504606846976) (op err cnt : Int) (hc : cnt ≤ 4294967296) (ms : List Int) (hm : ms.length ≤ 20) (i : Nat) (hi : i < 16) :
    (noteR l op err cnt ms).1.getD i 0 = l.getD i 0 + noteD op err cnt ms i := by
  unfold noteR noteD
  by_cases hr : rightR op cnt ms = true
  · rw [if_pos hr, if_pos hr]
    by_cases he : err = 0
    · rw [if_pos he, if_pos he]
      exact notedL_get h hM _ cnt (rightR_parts hr).2.2 hc ms hm i hi
    · rw [if_neg he, if_neg he]
      exact raiseL_get h 1 1 (by omega) i hi
  · rw [if_neg hr, if_neg hr, Int.add_zero]
theorem noteD_le (op err cnt : Int) (hc : cnt ≤ 4294967296) (ms : List Int) (hm : ms.length ≤ 20) (i : Nat) : 0 ≤ noteD op err cnt ms i ∧ noteD op err cnt ms i ≤ 8589934592 := by
  unfold noteD
  by_cases hr : rightR op cnt ms = true
  · rw [if_pos hr]
    split
    · exact nD_le _ cnt (rightR_parts hr).2.2 hc ms hm i
    · split <;> omega
  · rw [if_neg hr]; omega
theorem noteD_items (op err cnt : Int) (ms : List Int) : noteD op err cnt ms 2 = noteD op err cnt ms 3 + noteD op err cnt ms 4 + noteD op err cnt ms 5 := by
  unfold noteD
  by_cases hr : rightR op cnt ms = true
  · have := rightR_parts hr
    simp only [if_pos hr]
    by_cases he : err = 0
    · simp only [if_pos he]
      exact nD_items _ (by omega) cnt ms
    · simp only [if_neg he]
      decide
  · simp only [if_neg hr]
    decide
/-- The whole and the two parts after k responses. -/
structure Inv (k : Nat) (W A B : List Int) : Prop where
  lw : W.length = 16
  la : Le16 A (k * 8589934592)
  lb : Le16 B (k * 8589934592)
  sum : ∀ i, i < 16 → W.getD i 0 = A.getD i 0 + B.getD i 0
  items : W.getD 2 0 = W.getD 3 0 + W.getD 4 0 + W.getD 5 0
theorem Inv.start : Inv 0 (List.replicate 16 0) (List.replicate 16 0) (List.replicate 16 0) := by
  have z : ∀ i, (List.replicate 16 (0 : Int)).getD i 0 = 0 := fun i => by
    rw [List.getD_eq_getElem?_getD, List.getElem?_replicate]
    split <;> rfl
  have hz : Le16 (List.replicate 16 (0 : Int)) ((0 : Nat) * 8589934592) := ⟨rfl, fun i _ => by rw [z]; decide⟩
  exact ⟨rfl, hz, hz, fun i _ => by simp only [z]; decide, by simp only [z]; decide⟩
theorem Inv.lew {k : Nat} {W A B : List Int} (h : Inv k W A B) : Le16 W (k * 17179869184) := by
  refine ⟨h.lw, fun i hi => ?_⟩
  have h1 := h.la.2 i hi
  have h2 := h.lb.2 i hi
  rw [h.sum i hi]
  omega
theorem step_Le {k : Nat} {l : List Int} (hk : k ≤ 1000) (h : Le16 l (k * 8589934592)) (op err cnt : Int) (hc : cnt ≤ 4294967296) (ms : List Int) (hm : ms.length ≤ 20) : Le16 (noteR l op err cnt ms).1 ((k + 1 : Nat) * 8589934592) := by
  refine ⟨by rw [noteR_len]; exact h.1, fun i hi => ?_⟩
  rw [noteR_get h (by omega) op err cnt hc ms hm i hi]
  have h1 := h.2 i hi
  have h2 := noteD_le op err cnt hc ms hm i
  omega
theorem same_Le {k : Nat} {l : List Int} (h : Le16 l (k * 8589934592)) : Le16 l ((k + 1 : Nat) * 8589934592) := by
  refine ⟨h.1, fun i hi => ?_⟩
  have h1 := h.2 i hi
  omega
theorem Inv.items_step {k : Nat} {W A B : List Int} (h : Inv k W A B) (hk : k ≤ 1000) (op err cnt : Int) (hc : cnt ≤ 4294967296) (ms : List Int) (hm : ms.length ≤ 20) :
    (noteR W op err cnt ms).1.getD 2 0 = (noteR W op err cnt ms).1.getD 3 0 + (noteR W op err cnt ms).1.getD 4 0 + (noteR W op err cnt ms).1.getD 5 0 := by
  have g := fun i hi => noteR_get h.lew (by omega) op err cnt hc ms hm i hi
  rw [g 2 (by decide), g 3 (by decide), g 4 (by decide), g 5 (by decide), noteD_items, h.items]
  omega
theorem Inv.first {k : Nat} {W A B : List Int} (h : Inv k W A B) (hk : k ≤ 1000) (op err cnt : Int) (hc : cnt ≤ 4294967296) (ms : List Int) (hm : ms.length ≤ 20) :
    Inv (k + 1) (noteR W op err cnt ms).1 (noteR A op err cnt ms).1 B := by
  refine ⟨by rw [noteR_len]; exact h.lw, step_Le hk h.la op err cnt hc ms hm, same_Le h.lb, fun i hi => ?_, h.items_step hk op err cnt hc ms hm⟩
  rw [noteR_get h.lew (by omega) op err cnt hc ms hm i hi, noteR_get h.la (by omega) op err cnt hc ms hm i hi, h.sum i hi]
  omega
theorem Inv.second {k : Nat} {W A B : List Int} (h : Inv k W A B) (hk : k ≤ 1000) (op err cnt : Int) (hc : cnt ≤ 4294967296) (ms : List Int) (hm : ms.length ≤ 20) :
    Inv (k + 1) (noteR W op err cnt ms).1 A (noteR B op err cnt ms).1 := by
  refine ⟨by rw [noteR_len]; exact h.lw, same_Le h.la, step_Le hk h.lb op err cnt hc ms hm, fun i hi => ?_, h.items_step hk op err cnt hc ms hm⟩
  rw [noteR_get h.lew (by omega) op err cnt hc ms hm i hi, noteR_get h.lb (by omega) op err cnt hc ms hm i hi, h.sum i hi]
  omega
theorem Le16.isu {l : List Int} {M : Int} (h : Le16 l M) (hM : M ≤ 18446744073709551615) : ∀ x ∈ l, isU x := by
  intro x hx
  obtain ⟨i, hi, rfl⟩ := List.mem_iff_getElem.1 hx
  have := h.2 i (by rw [← h.1]; exact hi)
  rw [List.getD_eq_getElem?_getD, List.getElem?_eq_getElem hi] at this
  simp only [Option.getD_some] at this
  exact ⟨this.1, by omega⟩
end Go.Proofs.YtjiefmihodfgpaaDoor
