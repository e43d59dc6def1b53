/- Names of entries: lists that hold the same, names that are added and taken back. -/
import Derived.Test.YthngkimncdpekaaIntQ
namespace Go.Proofs.Ythngkimncdpekaa
set_option linter.unusedVariables false

/-- Two tables hold the same names under the same numbers: what is behind the last name does not matter. -/
def Nq (l l' : Nms) : Prop := ∀ n, nmAt l n = nmAt l' n
theorem Nq.refl (l : Nms) : Nq l l := fun _ => rfl
theorem Nq.symm {l l' : Nms} (h : Nq l l') : Nq l' l := fun n => (h n).symm
theorem Nq.trans {l l' l'' : Nms} (h : Nq l l') (k : Nq l' l'') : Nq l l'' := fun n => (h n).trans (k n)
theorem Nq.live {l l' : Nms} (h : Nq l l') (n : Nat) : liveB l n = liveB l' n := by unfold liveB; rw [h n]
theorem nq_nil : ∀ {l : Nms}, Nq l [] → l.filter liveX = []
  | l, h => by
    rw [List.filter_eq_nil_iff]
    intro x hx
    obtain ⟨i, hi, rfl⟩ := List.mem_iff_getElem.1 hx
    have h1 := h i
    rw [nmAt_of (List.getElem?_eq_getElem hi)] at h1
    rw [h1]
    show ¬ (liveX ([], 0)) = true
    decide
theorem Nq.filter : ∀ {l l' : Nms}, Nq l l' → l.filter liveX = l'.filter liveX
  | [], l', h => (nq_nil h.symm).symm
  | x :: l, [], h => nq_nil h
  | x :: l, y :: l', h => by
    have h0 : x = y := h 0
    have h1 : Nq l l' := fun n => h (n + 1)
    rw [List.filter_cons, List.filter_cons, h0, h1.filter]
theorem Nq.liveN {l l' : Nms} (h : Nq l l') : liveN l = liveN l' := by unfold Proofs.Ythngkimncdpekaa.liveN; rw [h.filter]
theorem Nq.dist {l l' : Nms} (h : Nq l l') (hd : Distinct l) : Distinct l' := fun i j hi hj e => by
  rw [← h.live i] at hi
  rw [← h.live j] at hj
  rw [← h i, ← h j] at e
  exact hd i j hi hj e
theorem Nq.findN {l l' : Nms} (h : Nq l l') (hd : Distinct l) (s : List UInt8) : findN l s = findN l' s := by
  cases h1 : Proofs.Ythngkimncdpekaa.findN l s with
  | some n =>
    obtain ⟨h2, h3⟩ := findN_some h1
    rw [h.live n] at h2
    rw [h n] at h3
    exact (findN_of (h.dist hd) h2 h3).symm
  | none =>
    cases h2 : Proofs.Ythngkimncdpekaa.findN l' s with
    | none => rfl
    | some n =>
      obtain ⟨h3, h4⟩ := findN_some h2
      rw [← h.live n] at h3
      rw [← h n] at h4
      exact absurd h4 (findN_none h1 n h3)
theorem Nq.lowest {l l' : Nms} (h : Nq l l') : lowest l = lowest l' := by
  rcases Nat.lt_trichotomy (Proofs.Ythngkimncdpekaa.lowest l) (Proofs.Ythngkimncdpekaa.lowest l') with h1 | h1 | h1
  · have h2 := lowest_min l' h1
    rw [← h.live, lowest_dead] at h2
    cases h2
  · exact h1
  · have h2 := lowest_min l h1
    rw [h.live, lowest_dead] at h2
    cases h2
theorem Nq.addM {most : Int} {l l' : Nms} (h : Nq l l') (hd : Distinct l) (s : List UInt8) : (addM most l s).2 = (addM most l' s).2 ∧ Nq (addM most l s).1 (addM most l' s).1 := by
  unfold Proofs.Ythngkimncdpekaa.addM
  by_cases hv : validB s = true
  · rw [if_pos hv, if_pos hv, ← h.findN hd s]
    cases hf : Proofs.Ythngkimncdpekaa.findN l s with
    | some n =>
      obtain ⟨h1, _⟩ := findN_some hf
      have h2 := live_lt h1
      rw [h.live] at h1
      have h3 := live_lt h1
      refine ⟨rfl, fun m => ?_⟩
      show nmAt (l.set n (s, (nmAt l n).2 + 1)) m = nmAt (l'.set n (s, (nmAt l' n).2 + 1)) m
      rw [nmAt_set h2, nmAt_set h3, h n, h m]
    | none =>
      simp only
      rw [← h.liveN, ← h.lowest]
      split
      · exact ⟨rfl, h⟩
      · refine ⟨rfl, fun m => ?_⟩
        show nmAt (putL l _ _) m = nmAt (putL l' _ _) m
        rw [nmAt_put (lowest_le l), nmAt_put (by rw [h.lowest]; exact lowest_le l'), h m]
  · rw [if_neg hv, if_neg hv]
    exact ⟨rfl, h⟩
theorem Nq.hasM {l l' : Nms} (h : Nq l l') (n : Int) : hasM l n = hasM l' n := by unfold Proofs.Ythngkimncdpekaa.hasM; rw [h.live]
theorem Nq.relM {l l' : Nms} (h : Nq l l') (n : Int) : (relM l n).2 = (relM l' n).2 ∧ Nq (relM l n).1 (relM l' n).1 := by
  unfold Proofs.Ythngkimncdpekaa.relM
  by_cases hh : Proofs.Ythngkimncdpekaa.hasM l n = true
  · have hh' := hh
    rw [h.hasM] at hh'
    rw [if_pos hh, if_pos hh', h n.toNat]
    unfold Proofs.Ythngkimncdpekaa.hasM at hh hh'
    rw [Bool.and_eq_true] at hh hh'
    have h2 := live_lt hh.2
    have h3 := live_lt hh'.2
    split
    · refine ⟨rfl, fun m => ?_⟩
      show nmAt (l.set _ _) m = nmAt (l'.set _ _) m
      rw [nmAt_set h2, nmAt_set h3, h m]
    · refine ⟨rfl, fun m => ?_⟩
      show nmAt (l.set _ _) m = nmAt (l'.set _ _) m
      rw [nmAt_set h2, nmAt_set h3, h m]
  · have hh' := hh
    rw [h.hasM] at hh'
    rw [if_neg hh, if_neg hh']
    exact ⟨rfl, h⟩
theorem Nq.findM {l l' : Nms} (h : Nq l l') (hd : Distinct l) (s : List UInt8) : findM l s = findM l' s := by
  unfold Proofs.Ythngkimncdpekaa.findM
  rw [h.findN hd]

/-- What one Add does, by numbers. -/
theorem addM_spec {most R : Int} {l : Nms} (hw : Wf most R l) {s : List UInt8} (hv : validB s = true) :
    addM most l s = (l, 0, 7) ∨ ∃ (l' : Nms) (n : Nat), addM most l s = (l', (n : Int), 0) ∧ nmAt l' n = (s, (nmAt l n).2 + 1) ∧ (liveB l n = true → (nmAt l n).1 = s) ∧ (∀ m, m ≠ n → nmAt l' m = nmAt l m) ∧ 0 ≤ (nmAt l n).2 := by
  unfold addM
  rw [if_pos hv]
  cases hf : findN l s with
  | some n =>
    obtain ⟨h1, h2⟩ := findN_some hf
    have hl := live_lt h1
    refine .inr ⟨_, n, rfl, by rw [nmAt_set hl, if_pos rfl], fun _ => h2, fun m hm => by rw [nmAt_set hl, if_neg hm], (hw.refs n).1⟩
  | none =>
    simp only
    split
    · exact .inl rfl
    · have hd := hw.none _ (lowest_dead l)
      refine .inr ⟨_, lowest l, rfl, by rw [nmAt_put (lowest_le l), if_pos rfl, hd]; rfl, fun h => (by rw [lowest_dead] at h; cases h), fun m hm => by rw [nmAt_put (lowest_le l), if_neg hm], (hw.refs _).1⟩

/-- Names that are added one after the other, until one cannot be. -/
def addsM (most : Int) : Nms → List (List UInt8) → Nms × List Nat × Int
  | l, [] => (l, [], 0)
  | l, s :: r => if (addM most l s).2.2 = 0 then ((addsM most (addM most l s).1 r).1, (addM most l s).2.1.toNat :: (addsM most (addM most l s).1 r).2.1, (addsM most (addM most l s).1 r).2.2) else ((addM most l s).1, [], (addM most l s).2.2)
structure AddsIs (most R : Int) (l : Nms) (ts : List (List UInt8)) (l1 : Nms) (ns : List Nat) (e : Int) : Prop where
  wf : Wf most (R + ts.length) l1
  nodup : ns.Nodup
  len : ns.length ≤ ts.length
  all : e = 0 → ns.length = ts.length
  err : e = 0 ∨ e = 7
  at_ : ∀ (i n : Nat), ns[i]? = some n → ∃ t, ts[i]? = some t ∧ (nmAt l1 n).1 = t
  refs : ∀ m, (nmAt l1 m).2 = (nmAt l m).2 + (if m ∈ ns then 1 else 0)
  other : ∀ m, m ∉ ns → nmAt l1 m = nmAt l m
  name : ∀ m, liveB l m = true → (nmAt l1 m).1 = (nmAt l m).1
theorem adds_is {most : Int} : ∀ {ts : List (List UInt8)} {R : Int} {l : Nms}, Wf most R l → 0 ≤ R → ts.Nodup → (∀ t ∈ ts, validB t = true) →
    AddsIs most R l ts (addsM most l ts).1 (addsM most l ts).2.1 (addsM most l ts).2.2
  | [], R, l, hw, _, _, _ => ⟨(show Wf most (R + (0 : Nat)) l from hw.mono (by simp)), List.nodup_nil, Nat.le_refl _, fun _ => rfl, .inl rfl, fun i n h => (by simp [addsM] at h), fun m => (by simp [addsM]), fun m _ => rfl, fun m _ => rfl⟩
  | s :: r, R, l, hw, hR, hn, hv => by
    obtain ⟨hn1, hn2⟩ := List.nodup_cons.1 hn
    have hadd := hw.add (by omega) s
    rcases addM_spec hw (hv s List.mem_cons_self) with he | ⟨l', n, he, h1, h2, h3, h4⟩
    · have e : addsM most l (s :: r) = (l, [], 7) := by
        unfold addsM
        rw [he]
        rfl
      rw [e]
      exact ⟨hw.mono (by omega), List.nodup_nil, Nat.zero_le _, fun h => (by cases h), .inr rfl, fun i n h => (by simp at h), fun m => (by simp), fun m _ => rfl, fun m _ => rfl⟩
    · rw [he] at hadd
      have ih := adds_is (most := most) (ts := r) (R := R + 1) (l := l') hadd (by omega) hn2 (fun t ht => hv t (List.mem_cons_of_mem _ ht))
      have e : addsM most l (s :: r) = ((addsM most l' r).1, n :: (addsM most l' r).2.1, (addsM most l' r).2.2) := by
        conv => lhs; unfold addsM
        rw [he]
        rfl
      rw [e]
      generalize addsM most l' r = z at *
      obtain ⟨l1, ns, e1⟩ := z
      simp only at *
      have hlive : liveB l' n = true := by
        unfold liveB
        rw [h1]
        simp only [decide_eq_true_eq]
        omega
      have hname := ih.name n hlive
      rw [h1] at hname
      have hnot : n ∉ ns := fun hm => by
        obtain ⟨i, hi⟩ := List.getElem?_of_mem hm
        obtain ⟨t, ht, ht2⟩ := ih.at_ i n hi
        have ht3 : s = t := hname.symm.trans ht2
        exact hn1 (by rw [ht3]; exact List.mem_of_getElem? ht)
      refine ⟨?_, List.nodup_cons.2 ⟨hnot, ih.nodup⟩, (by simp only [List.length_cons]; have := ih.len; omega), fun h => (by rw [List.length_cons, List.length_cons, ih.all h]), ih.err, ?_, ?_, ?_, ?_⟩
      · have := ih.wf
        rw [List.length_cons]
        rwa [show R + 1 + (r.length : Int) = R + ((r.length + 1 : Nat) : Int) by omega] at this
      · intro i m hm
        rcases i with _ | i
        · simp at hm
          subst hm
          exact ⟨s, rfl, hname⟩
        · rw [List.getElem?_cons_succ] at hm ⊢
          exact ih.at_ i m hm
      · intro m
        rw [ih.refs m]
        by_cases hm : m = n
        · subst hm
          rw [h1, if_neg hnot, if_pos List.mem_cons_self]
          omega
        · rw [h3 m hm]
          have : (m ∈ n :: ns) ↔ m ∈ ns := by rw [List.mem_cons]; exact ⟨fun h => h.resolve_left hm, .inr⟩
          simp only [this]
      · intro m hm
        rw [List.mem_cons, not_or] at hm
        rw [ih.other m hm.2, h3 m hm.1]
      · intro m hm
        by_cases e2 : m = n
        · subst e2
          rw [hname, h2 hm]
        · have : liveB l' m = true := by unfold liveB at hm ⊢; rw [h3 m e2]; exact hm
          rw [ih.name m this, h3 m e2]
/-- Names that are taken back one after the other; the numbers that are free then. -/
def relsM : Nms → List Nat → Nms × List Nat
  | l, [] => (l, [])
  | l, n :: r => ((relsM (relM l (n : Int)).1 r).1, if (relM l (n : Int)).2.1 = true then n :: (relsM (relM l (n : Int)).1 r).2 else (relsM (relM l (n : Int)).1 r).2)
theorem relM_spec {l : Nms} {n : Nat} (h : liveB l n = true) (m : Nat) : nmAt (relM l (n : Int)).1 m = (if m = n then (if 1 < (nmAt l n).2 then ((nmAt l n).1, (nmAt l n).2 - 1) else ([], 0)) else nmAt l m) ∧ (relM l (n : Int)).2.1 = decide (¬ 1 < (nmAt l n).2) := by
  unfold relM
  have hh : hasM l (n : Int) = true := by unfold hasM; rw [Int.toNat_natCast, h]; simp
  have hl := live_lt h
  rw [if_pos hh, Int.toNat_natCast]
  split
  · rename_i h1
    simp only
    rw [nmAt_set hl]
    exact ⟨rfl, by simp; omega⟩
  · rename_i h1
    simp only
    rw [nmAt_set hl]
    exact ⟨rfl, by simp; omega⟩
theorem rels_spec : ∀ {ns : List Nat} {l : Nms}, ns.Nodup → (∀ n ∈ ns, liveB l n = true) →
    (∀ m, nmAt (relsM l ns).1 m = (if m ∈ ns then (if 1 < (nmAt l m).2 then ((nmAt l m).1, (nmAt l m).2 - 1) else ([], 0)) else nmAt l m)) ∧ (relsM l ns).2 = ns.filter (fun n => decide (¬ 1 < (nmAt l n).2))
  | [], l, _, _ => ⟨fun m => by simp [relsM], rfl⟩
  | n :: r, l, hn, hv => by
    obtain ⟨hn1, hn2⟩ := List.nodup_cons.1 hn
    have h1 := relM_spec (hv n List.mem_cons_self)
    have hne : ∀ m ∈ r, m ≠ n := fun m hm e => hn1 (e ▸ hm)
    have h2 : ∀ m ∈ r, nmAt (relM l (n : Int)).1 m = nmAt l m := fun m hm => by rw [(h1 m).1, if_neg (hne m hm)]
    have ih := rels_spec (ns := r) (l := (relM l (n : Int)).1) hn2 (fun m hm => by
      have := hv m (List.mem_cons_of_mem _ hm)
      unfold liveB at this ⊢
      rw [h2 m hm]
      exact this)
    unfold relsM
    refine ⟨fun m => ?_, ?_⟩
    · show nmAt (relsM (relM l (n : Int)).1 r).1 m = _
      rw [ih.1 m]
      by_cases hm : m ∈ r
      · rw [if_pos hm, if_pos (List.mem_cons_of_mem _ hm), h2 m hm]
      · rw [if_neg hm, (h1 m).1]
        by_cases e : m = n
        · subst e
          rw [if_pos rfl, if_pos List.mem_cons_self]
        · rw [if_neg e, if_neg (by rw [List.mem_cons]; exact fun h => h.elim e hm)]
    · show (if _ then _ else _) = _
      rw [ih.2, (h1 n).2, List.filter_cons]
      have e : r.filter (fun k => decide (¬ 1 < (nmAt (relM l (n : Int)).1 k).2)) = r.filter (fun k => decide (¬ 1 < (nmAt l k).2)) :=
        List.filter_congr (fun m hm => by rw [h2 m hm])
      rw [e]
theorem rels_wf {most R : Int} : ∀ {ns : List Nat} {l : Nms}, Wf most R l → Wf most R (relsM l ns).1
  | [], _, h => h
  | n :: r, l, h => rels_wf (ns := r) (h.rel (n : Int))
theorem Nq.relsM : ∀ {ns : List Nat} {l l' : Nms}, Nq l l' → (relsM l ns).2 = (relsM l' ns).2 ∧ Nq (relsM l ns).1 (relsM l' ns).1
  | [], _, _, h => ⟨rfl, h⟩
  | n :: r, l, l', h => by
    have h1 := h.relM (n : Int)
    have ih := Nq.relsM (ns := r) h1.2
    unfold Proofs.Ythngkimncdpekaa.relsM
    refine ⟨?_, ih.2⟩
    show (if _ then _ else _) = (if _ then _ else _)
    rw [ih.1, h1.1]
theorem Nq.addsM {most : Int} : ∀ {ts : List (List UInt8)} {R : Int} {l l' : Nms}, Wf most R l → 0 ≤ R → Nq l l' → (addsM most l ts).2 = (addsM most l' ts).2 ∧ Nq (addsM most l ts).1 (addsM most l' ts).1
  | [], _, _, _, _, _, h => ⟨rfl, h⟩
  | s :: r, R, l, l', hw, hR, h => by
    have h1 := h.addM (most := most) hw.dist s
    have ih := Nq.addsM (most := most) (ts := r) (hw.add (by omega) s) (by omega) h1.2
    unfold Proofs.Ythngkimncdpekaa.addsM
    rw [← h1.1]
    split
    · exact ⟨by rw [ih.1], ih.2⟩
    · exact ⟨rfl, h1.2⟩
/-- What was added and is taken back leaves the same names. -/
theorem undo_is {most R : Int} {l l1 : Nms} {ts : List (List UInt8)} {ns : List Nat} {e : Int} (hw : Wf most R l) (h : AddsIs most R l ts l1 ns e) : Nq (relsM l1 ns).1 l := by
  have hlive : ∀ n ∈ ns, liveB l1 n = true := fun n hn => by
    unfold liveB
    rw [h.refs n, if_pos hn]
    have := (hw.refs n).1
    simp only [decide_eq_true_eq]
    omega
  intro m
  rw [(rels_spec h.nodup hlive).1 m]
  by_cases hm : m ∈ ns
  · rw [if_pos hm, h.refs m, if_pos hm]
    by_cases hl : liveB l m = true
    · have h2 : 0 < (nmAt l m).2 := by unfold liveB at hl; simpa using hl
      rw [if_pos (by omega), h.name m hl]
      ext
      · rfl
      · show (nmAt l m).2 + 1 - 1 = (nmAt l m).2
        omega
    · have h2 := hw.none m (by simpa using hl)
      rw [h2]
      rfl
  · rw [if_neg hm, h.other m hm]
end Go.Proofs.Ythngkimncdpekaa
