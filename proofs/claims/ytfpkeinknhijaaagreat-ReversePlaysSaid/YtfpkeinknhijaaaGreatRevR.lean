/- The document's index: what is right, what is wrong. -/
import Derived.Test.YtfpkeinknhijaaaGreatIntQ
/- Names of entries: lists that hold the same, names that are added and taken back. -/
namespace Go.Proofs.YtfpkeinknhijaaaGreat
set_option linter.unusedVariables false

/-- Two tables hold the same names under the same numbers: what is behind the last name does not matter. -/
def Nq (l l' : Nms) : Prop := ∀ n, nmAt l n = nmAt l' n
theorem Nq.refl (l : Nms) : Nq l l := fun _ => rfl
theorem Nq.symm {l l' : Nms} (h : Nq l l') : Nq l' l := fun n => (h n).symm
theorem Nq.trans {l l' l'' : Nms} (h : Nq l l') (k : Nq l' l'') : Nq l l'' := fun n => (h n).trans (k n)
theorem Nq.live {l l' : Nms} (h : Nq l l') (n : Nat) : liveB l n = liveB l' n := by unfold liveB; rw [h n]
theorem nq_nil : ∀ {l : Nms}, Nq l [] → l.filter liveX = []
  | l, h => by
    rw [List.filter_eq_nil_iff]
    intro x hx
    obtain ⟨i, hi, rfl⟩ := List.mem_iff_getElem.1 hx
    have h1 := h i
    rw [nmAt_of (List.getElem?_eq_getElem hi)] at h1
    rw [h1]
    show ¬ (liveX ([], 0)) = true
    decide
theorem Nq.filter : ∀ {l l' : Nms}, Nq l l' → l.filter liveX = l'.filter liveX
  | [], l', h => (nq_nil h.symm).symm
  | x :: l, [], h => nq_nil h
  | x :: l, y :: l', h => by
    have h0 : x = y := h 0
    have h1 : Nq l l' := fun n => h (n + 1)
    rw [List.filter_cons, List.filter_cons, h0, h1.filter]
theorem Nq.liveN {l l' : Nms} (h : Nq l l') : liveN l = liveN l' := by unfold Proofs.YtfpkeinknhijaaaGreat.liveN; rw [h.filter]
theorem Nq.dist {l l' : Nms} (h : Nq l l') (hd : Distinct l) : Distinct l' := fun i j hi hj e => by
  rw [← h.live i] at hi
  rw [← h.live j] at hj
  rw [← h i, ← h j] at e
  exact hd i j hi hj e
theorem Nq.findN {l l' : Nms} (h : Nq l l') (hd : Distinct l) (s : List UInt8) : findN l s = findN l' s := by
  cases h1 : Proofs.YtfpkeinknhijaaaGreat.findN l s with
  | some n =>
    obtain ⟨h2, h3⟩ := findN_some h1
    rw [h.live n] at h2
    rw [h n] at h3
    exact (findN_of (h.dist hd) h2 h3).symm
  | none =>
    cases h2 : Proofs.YtfpkeinknhijaaaGreat.findN l' s with
    | none => rfl
    | some n =>
      obtain ⟨h3, h4⟩ := findN_some h2
      rw [← h.live n] at h3
      rw [← h n] at h4
      exact absurd h4 (findN_none h1 n h3)
theorem Nq.lowest {l l' : Nms} (h : Nq l l') : lowest l = lowest l' := by
  rcases Nat.lt_trichotomy (Proofs.YtfpkeinknhijaaaGreat.lowest l) (Proofs.YtfpkeinknhijaaaGreat.lowest l') with h1 | h1 | h1
  · have h2 := lowest_min l' h1
    rw [← h.live, lowest_dead] at h2
    cases h2
  · exact h1
  · have h2 := lowest_min l h1
    rw [h.live, lowest_dead] at h2
    cases h2
theorem Nq.addM {most : Int} {l l' : Nms} (h : Nq l l') (hd : Distinct l) (s : List UInt8) : (addM most l s).2 = (addM most l' s).2 ∧ Nq (addM most l s).1 (addM most l' s).1 := by
  unfold Proofs.YtfpkeinknhijaaaGreat.addM
  by_cases hv : validB s = true
  · rw [if_pos hv, if_pos hv, ← h.findN hd s]
    cases hf : Proofs.YtfpkeinknhijaaaGreat.findN l s with
    | some n =>
      obtain ⟨h1, _⟩ := findN_some hf
      have h2 := live_lt h1
      rw [h.live] at h1
      have h3 := live_lt h1
      refine ⟨rfl, fun m => ?_⟩
      show nmAt (l.set n (s, (nmAt l n).2 + 1)) m = nmAt (l'.set n (s, (nmAt l' n).2 + 1)) m
      rw [nmAt_set h2, nmAt_set h3, h n, h m]
    | none =>
      simp only
      rw [← h.liveN, ← h.lowest]
      split
      · exact ⟨rfl, h⟩
      · refine ⟨rfl, fun m => ?_⟩
        show nmAt (putL l _ _) m = nmAt (putL l' _ _) m
        rw [nmAt_put (lowest_le l), nmAt_put (by rw [h.lowest]; exact lowest_le l'), h m]
  · rw [if_neg hv, if_neg hv]
    exact ⟨rfl, h⟩
theorem Nq.hasM {l l' : Nms} (h : Nq l l') (n : Int) : hasM l n = hasM l' n := by unfold Proofs.YtfpkeinknhijaaaGreat.hasM; rw [h.live]
theorem Nq.relM {l l' : Nms} (h : Nq l l') (n : Int) : (relM l n).2 = (relM l' n).2 ∧ Nq (relM l n).1 (relM l' n).1 := by
  unfold Proofs.YtfpkeinknhijaaaGreat.relM
  by_cases hh : Proofs.YtfpkeinknhijaaaGreat.hasM l n = true
  · have hh' := hh
    rw [h.hasM] at hh'
    rw [if_pos hh, if_pos hh', h n.toNat]
    unfold Proofs.YtfpkeinknhijaaaGreat.hasM at hh hh'
    rw [Bool.and_eq_true] at hh hh'
    have h2 := live_lt hh.2
    have h3 := live_lt hh'.2
    split
    · refine ⟨rfl, fun m => ?_⟩
      show nmAt (l.set _ _) m = nmAt (l'.set _ _) m
      rw [nmAt_set h2, nmAt_set h3, h m]
    · refine ⟨rfl, fun m => ?_⟩
      show nmAt (l.set _ _) m = nmAt (l'.set _ _) m
      rw [nmAt_set h2, nmAt_set h3, h m]
  · have hh' := hh
    rw [h.hasM] at hh'
    rw [if_neg hh, if_neg hh']
    exact ⟨rfl, h⟩
theorem Nq.findM {l l' : Nms} (h : Nq l l') (hd : Distinct l) (s : List UInt8) : findM l s = findM l' s := by
  unfold Proofs.YtfpkeinknhijaaaGreat.findM
  rw [h.findN hd]

/-- What one Add does, by numbers. -/
theorem addM_spec {most R : Int} {l : Nms} (hw : Wf most R l) {s : List UInt8} (hv : validB s = true) :
    addM most l s = (l, 0, 7) ∨ ∃ (l' : Nms) (n : Nat), addM most l s = (l', (n : Int), 0) ∧ nmAt l' n = (s, (nmAt l n).2 + 1) ∧ (liveB l n = true → (nmAt l n).1 = s) ∧ (∀ m, m ≠ n → nmAt l' m = nmAt l m) ∧ 0 ≤ (nmAt l n).2 := by
  unfold addM
  rw [if_pos hv]
  cases hf : findN l s with
  | some n =>
    obtain ⟨h1, h2⟩ := findN_some hf
    have hl := live_lt h1
    refine .inr ⟨_, n, rfl, by rw [nmAt_set hl, if_pos rfl], fun _ => h2, fun m hm => by rw [nmAt_set hl, if_neg hm], (hw.refs n).1⟩
  | none =>
    simp only
    split
    · exact .inl rfl
    · have hd := hw.none _ (lowest_dead l)
      refine .inr ⟨_, lowest l, rfl, by rw [nmAt_put (lowest_le l), if_pos rfl, hd]; rfl, fun h => (by rw [lowest_dead] at h; cases h), fun m hm => by rw [nmAt_put (lowest_le l), if_neg hm], (hw.refs _).1⟩

/-- Names that are added one after the other, until one cannot be. -/
def addsM (most : Int) : Nms → List (List UInt8) → Nms × List Nat × Int
  | l, [] => (l, [], 0)
  | l, s :: r => if (addM most l s).2.2 = 0 then ((addsM most (addM most l s).1 r).1, (addM most l s).2.1.toNat :: (addsM most (addM most l s).1 r).2.1, (addsM most (addM most l s).1 r).2.2) else ((addM most l s).1, [], (addM most l s).2.2)
structure AddsIs (most R : Int) (l : Nms) (ts : List (List UInt8)) (l1 : Nms) (ns : List Nat) (e : Int) : Prop where
  wf : Wf most (R + ts.length) l1
  nodup : ns.Nodup
  len : ns.length ≤ ts.length
  all : e = 0 → ns.length = ts.length
  err : e = 0 ∨ e = 7
  at_ : ∀ (i n : Nat), ns[i]? = some n → ∃ t, ts[i]? = some t ∧ (nmAt l1 n).1 = t
  refs : ∀ m, (nmAt l1 m).2 = (nmAt l m).2 + (if m ∈ ns then 1 else 0)
  other : ∀ m, m ∉ ns → nmAt l1 m = nmAt l m
  name : ∀ m, liveB l m = true → (nmAt l1 m).1 = (nmAt l m).1
theorem adds_is {most : Int} : ∀ {ts : List (List UInt8)} {R : Int} {l : Nms}, Wf most R l → 0 ≤ R → ts.Nodup → (∀ t ∈ ts, validB t = true) →
    AddsIs most R l ts (addsM most l ts).1 (addsM most l ts).2.1 (addsM most l ts).2.2
  | [], R, l, hw, _, _, _ => ⟨(show Wf most (R + (0 : Nat)) l from hw.mono (by simp)), List.nodup_nil, Nat.le_refl _, fun _ => rfl, .inl rfl, fun i n h => (by simp [addsM] at h), fun m => (by simp [addsM]), fun m _ => rfl, fun m _ => rfl⟩
  | s :: r, R, l, hw, hR, hn, hv => by
    obtain ⟨hn1, hn2⟩ := List.nodup_cons.1 hn
    have hadd := hw.add (by omega) s
    rcases addM_spec hw (hv s List.mem_cons_self) with he | ⟨l', n, he, h1, h2, h3, h4⟩
    · have e : addsM most l (s :: r) = (l, [], 7) := by
        unfold addsM
        rw [he]
        rfl
      rw [e]
      exact ⟨hw.mono (by omega), List.nodup_nil, Nat.zero_le _, fun h => (by cases h), .inr rfl, fun i n h => (by simp at h), fun m => (by simp), fun m _ => rfl, fun m _ => rfl⟩
    · rw [he] at hadd
      have ih := adds_is (most := most) (ts := r) (R := R + 1) (l := l') hadd (by omega) hn2 (fun t ht => hv t (List.mem_cons_of_mem _ ht))
      have e : addsM most l (s :: r) = ((addsM most l' r).1, n :: (addsM most l' r).2.1, (addsM most l' r).2.2) := by
        conv => lhs; unfold addsM
        rw [he]
        rfl
      rw [e]
      generalize addsM most l' r = z at *
      obtain ⟨l1, ns, e1⟩ := z
      simp only at *
      have hlive : liveB l' n = true := by
        unfold liveB
        rw [h1]
        simp only [decide_eq_true_eq]
        omega
      have hname := ih.name n hlive
      rw [h1] at hname
      have hnot : n ∉ ns := fun hm => by
        obtain ⟨i, hi⟩ := List.getElem?_of_mem hm
        obtain ⟨t, ht, ht2⟩ := ih.at_ i n hi
        have ht3 : s = t := hname.symm.trans ht2
        exact hn1 (by rw [ht3]; exact List.mem_of_getElem? ht)
      refine ⟨?_, List.nodup_cons.2 ⟨hnot, ih.nodup⟩, (by simp only [List.length_cons]; have := ih.len; omega), fun h => (by rw [List.length_cons, List.length_cons, ih.all h]), ih.err, ?_, ?_, ?_, ?_⟩
      · have := ih.wf
        rw [List.length_cons]
        rwa [show R + 1 + (r.length : Int) = R + ((r.length + 1 : Nat) : Int) by omega] at this
      · intro i m hm
        rcases i with _ | i
        · simp at hm
          subst hm
          exact ⟨s, rfl, hname⟩
        · rw [List.getElem?_cons_succ] at hm ⊢
          exact ih.at_ i m hm
      · intro m
        rw [ih.refs m]
        by_cases hm : m = n
        · subst hm
          rw [h1, if_neg hnot, if_pos List.mem_cons_self]
          omega
        · rw [h3 m hm]
          have : (m ∈ n :: ns) ↔ m ∈ ns := by rw [List.mem_cons]; exact ⟨fun h => h.resolve_left hm, .inr⟩
          simp only [this]
      · intro m hm
        rw [List.mem_cons, not_or] at hm
        rw [ih.other m hm.2, h3 m hm.1]
      · intro m hm
        by_cases e2 : m = n
        · subst e2
          rw [hname, h2 hm]
        · have : liveB l' m = true := by unfold liveB at hm ⊢; rw [h3 m e2]; exact hm
          rw [ih.name m this, h3 m e2]
/-- Names that are taken back one after the other; the numbers that are free then. -/
def relsM : Nms → List Nat → Nms × List Nat
  | l, [] => (l, [])
  | l, n :: r => ((relsM (relM l (n : Int)).1 r).1, if (relM l (n : Int)).2.1 = true then n :: (relsM (relM l (n : Int)).1 r).2 else (relsM (relM l (n : Int)).1 r).2)
theorem relM_spec {l : Nms} {n : Nat} (h : liveB l n = true) (m : Nat) : nmAt (relM l (n : Int)).1 m = (if m = n then (if 1 < (nmAt l n).2 then ((nmAt l n).1, (nmAt l n).2 - 1) else ([], 0)) else nmAt l m) ∧ (relM l (n : Int)).2.1 = decide (¬ 1 < (nmAt l n).2) := by
  unfold relM
  have hh : hasM l (n : Int) = true := by unfold hasM; rw [Int.toNat_natCast, h]; simp
  have hl := live_lt h
  rw [if_pos hh, Int.toNat_natCast]
  split
  · rename_i h1
    simp only
    rw [nmAt_set hl]
    exact ⟨rfl, by simp; omega⟩
  · rename_i h1
    simp only
    rw [nmAt_set hl]
    exact ⟨rfl, by simp; omega⟩
theorem rels_spec : ∀ {ns : List Nat} {l : Nms}, ns.Nodup → (∀ n ∈ ns, liveB l n = true) →
    (∀ m, nmAt (relsM l ns).1 m = (if m ∈ ns then (if 1 < (nmAt l m).2 then ((nmAt l m).1, (nmAt l m).2 - 1) else ([], 0)) else nmAt l m)) ∧ (relsM l ns).2 = ns.filter (fun n => decide (¬ 1 < (nmAt l n).2))
  | [], l, _, _ => ⟨fun m => by simp [relsM], rfl⟩
  | n :: r, l, hn, hv => by
    obtain ⟨hn1, hn2⟩ := List.nodup_cons.1 hn
    have h1 := relM_spec (hv n List.mem_cons_self)
    have hne : ∀ m ∈ r, m ≠ n := fun m hm e => hn1 (e ▸ hm)
    have h2 : ∀ m ∈ r, nmAt (relM l (n : Int)).1 m = nmAt l m := fun m hm => by rw [(h1 m).1, if_neg (hne m hm)]
    have ih := rels_spec (ns := r) (l := (relM l (n : Int)).1) hn2 (fun m hm => by
      have := hv m (List.mem_cons_of_mem _ hm)
      unfold liveB at this ⊢
      rw [h2 m hm]
      exact this)
    unfold relsM
    refine ⟨fun m => ?_, ?_⟩
    · show nmAt (relsM (relM l (n : Int)).1 r).1 m = _
      rw [ih.1 m]
      by_cases hm : m ∈ r
      · rw [if_pos hm, if_pos (List.mem_cons_of_mem _ hm), h2 m hm]
      · rw [if_neg hm, (h1 m).1]
        by_cases e : m = n
        · subst e
          rw [if_pos rfl, if_pos List.mem_cons_self]
        · rw [if_neg e, if_neg (by rw [List.mem_cons]; exact fun h => h.elim e hm)]
    · show (if _ then _ else _) = _
      rw [ih.2, (h1 n).2, List.filter_cons]
      have e : r.filter (fun k => decide (¬ 1 < (nmAt (relM l (n : Int)).1 k).2)) = r.filter (fun k => decide (¬ 1 < (nmAt l k).2)) :=
        List.filter_congr (fun m hm => by rw [h2 m hm])
      rw [e]
theorem rels_wf {most R : Int} : ∀ {ns : List Nat} {l : Nms}, Wf most R l → Wf most R (relsM l ns).1
  | [], _, h => h
  | n :: r, l, h => rels_wf (ns := r) (h.rel (n : Int))
theorem Nq.relsM : ∀ {ns : List Nat} {l l' : Nms}, Nq l l' → (relsM l ns).2 = (relsM l' ns).2 ∧ Nq (relsM l ns).1 (relsM l' ns).1
  | [], _, _, h => ⟨rfl, h⟩
  | n :: r, l, l', h => by
    have h1 := h.relM (n : Int)
    have ih := Nq.relsM (ns := r) h1.2
    unfold Proofs.YtfpkeinknhijaaaGreat.relsM
    refine ⟨?_, ih.2⟩
    show (if _ then _ else _) = (if _ then _ else _)
    rw [ih.1, h1.1]
theorem Nq.addsM {most : Int} : ∀ {ts : List (List UInt8)} {R : Int} {l l' : Nms}, Wf most R l → 0 ≤ R → Nq l l' → (addsM most l ts).2 = (addsM most l' ts).2 ∧ Nq (addsM most l ts).1 (addsM most l' ts).1
  | [], _, _, _, _, _, h => ⟨rfl, h⟩
  | s :: r, R, l, l', hw, hR, h => by
    have h1 := h.addM (most := most) hw.dist s
    have ih := Nq.addsM (most := most) (ts := r) (hw.add (by omega) s) (by omega) h1.2
    unfold Proofs.YtfpkeinknhijaaaGreat.addsM
    rw [← h1.1]
    split
    · exact ⟨by rw [ih.1], ih.2⟩
    · exact ⟨rfl, h1.2⟩
/-- What was added and is taken back leaves the same names. -/
theorem undo_is {most R : Int} {l l1 : Nms} {ts : List (List UInt8)} {ns : List Nat} {e : Int} (hw : Wf most R l) (h : AddsIs most R l ts l1 ns e) : Nq (relsM l1 ns).1 l := by
  have hlive : ∀ n ∈ ns, liveB l1 n = true := fun n hn => by
    unfold liveB
    rw [h.refs n, if_pos hn]
    have := (hw.refs n).1
    simp only [decide_eq_true_eq]
    omega
  intro m
  rw [(rels_spec h.nodup hlive).1 m]
  by_cases hm : m ∈ ns
  · rw [if_pos hm, h.refs m, if_pos hm]
    by_cases hl : liveB l m = true
    · have h2 : 0 < (nmAt l m).2 := by unfold liveB at hl; simpa using hl
      rw [if_pos (by omega), h.name m hl]
      ext
      · rfl
      · show (nmAt l m).2 + 1 - 1 = (nmAt l m).2
        omega
    · have h2 := hw.none m (by simpa using hl)
      rw [h2]
      rfl
  · rw [if_neg hm, h.other m hm]
end Go.Proofs.YtfpkeinknhijaaaGreat
/- The document's index of entries by their tags: entries, slots, and what calls keep. -/
namespace Go.Proofs.YtfpkeinknhijaaaGreat
set_option linter.unusedVariables false


structure En where
  id : Nat
  tags : List (List UInt8)
  nums : List Nat
  live : Bool
structure Dx where
  nm : Nms
  all : List En
  sl : List (Nat × Nat)
def getE (A : List En) (id : Nat) : Option En := A.find? fun e => e.id == id && e.live
def liveE (A : List En) (id : Nat) : Bool := (getE A id).isSome
def lastE (A : List En) : Nat := match A.getLast? with | some e => e.id | none => 0
def tagsB (ts : List (List UInt8)) : Bool := ts.all validB && decide (ts.Pairwise (· < ·)) && decide (ts.length ≤ 16)
def ofX (S : List (Nat × Nat)) (n : Nat) : List Nat := (S.filter fun s => s.1 == n).map (·.2)
def wrongX (A : List En) (S : List (Nat × Nat)) : Nat := S.countP fun s => !liveE A s.2
def deadE (id : Nat) (e : En) : En := if e.id = id then { e with live := false } else e
def cutL (n : Nat) : List (Nat × Nat) → Nat → List (Nat × Nat)
  | [], _ => []
  | s :: r, i => if s.1 = n then (match i with | 0 => r | i + 1 => s :: cutL n r i) else s :: cutL n r i
def rightX (A : List En) (t : List UInt8) : List Nat := A.flatMap fun e => if e.live = true then (e.tags.filter (· == t)).map (fun _ => e.id) else []
def nextX (S : List (Nat × Nat)) (k : Nat) : Option Nat := ((S.map (·.1)).filter (fun n => decide (k ≤ n))).min?
def Dx.add (most : Int) (d : Dx) (id : Nat) (ts : List (List UInt8)) : Dx × List Nat × Int :=
  if id ≤ lastE d.all ∨ tagsB ts = false then (d, [], 2)
  else if (addsM most d.nm ts).2.2 = 0 then (⟨(addsM most d.nm ts).1, d.all ++ [⟨id, ts, (addsM most d.nm ts).2.1, true⟩], d.sl ++ (addsM most d.nm ts).2.1.map (fun n => (n, id))⟩, (addsM most d.nm ts).2.1, 0)
  else (d, [], (addsM most d.nm ts).2.2)
def Dx.drop (d : Dx) (id : Nat) : Dx × List Nat × Int :=
  match getE d.all id with
  | none => (d, [], 9)
  | some e => (⟨(relsM d.nm e.nums).1, d.all.map (deadE id), d.sl⟩, (relsM d.nm e.nums).2, 0)
def numB (n : Int) : Bool := decide (0 ≤ n) && decide (n < 65536)
def Dx.cut (d : Dx) (n i : Int) : Dx × Bool × Int :=
  if numB n = true then
    if 0 ≤ i then
      match (ofX d.sl n.toNat)[i.toNat]? with
      | none => (d, false, 9)
      | some id => if liveE d.all id = true then (d, false, 0) else (⟨d.nm, d.all, cutL n.toNat d.sl i.toNat⟩, true, 0)
    else (d, false, 9)
  else (d, false, 2)

theorem getE_some {A : List En} {id : Nat} {e : En} (h : getE A id = some e) : e ∈ A ∧ e.id = id ∧ e.live = true := by
  unfold getE at h
  have h1 := List.find?_some h
  have h2 := List.mem_of_find?_eq_some h
  simp only [Bool.and_eq_true, beq_iff_eq] at h1
  exact ⟨h2, h1.1, h1.2⟩
theorem getE_none {A : List En} {id : Nat} (h : getE A id = none) {e : En} (he : e ∈ A) (hi : e.id = id) : e.live = false := by
  unfold getE at h
  rw [List.find?_eq_none] at h
  have := h e he
  simp [hi] at this
  simpa using this
theorem ids_uniq : ∀ {A : List En}, A.Pairwise (fun x y => x.id < y.id) → ∀ {x y : En}, x ∈ A → y ∈ A → x.id = y.id → x = y
  | [], _, x, y, hx, _, _ => by cases hx
  | z :: r, h, x, y, hx, hy, he => by
    obtain ⟨h1, h2⟩ := List.pairwise_cons.1 h
    rcases List.mem_cons.1 hx with rfl | hx
    · rcases List.mem_cons.1 hy with rfl | hy
      · rfl
      · have := h1 y hy; omega
    · rcases List.mem_cons.1 hy with hy | hy
      · have := h1 x hx; rw [hy] at he; omega
      · exact ids_uniq h2 hx hy he
theorem getE_of {A : List En} (h : A.Pairwise (fun x y => x.id < y.id)) {e : En} (he : e ∈ A) (hl : e.live = true) : getE A e.id = some e := by
  cases hg : getE A e.id with
  | none => rw [getE_none hg he rfl] at hl; cases hl
  | some y =>
    obtain ⟨h1, h2, _⟩ := getE_some hg
    rw [ids_uniq h h1 he h2]
theorem liveE_iff {A : List En} {id : Nat} : liveE A id = true ↔ ∃ e ∈ A, e.id = id ∧ e.live = true := by
  unfold liveE
  constructor
  · intro h
    obtain ⟨e, he⟩ := Option.isSome_iff_exists.1 h
    exact ⟨e, (getE_some he).1, (getE_some he).2⟩
  · rintro ⟨e, he, hi, hl⟩
    cases hg : getE A id with
    | none => rw [getE_none hg he hi] at hl; cases hl
    | some y => rfl
theorem last_le {A : List En} (h : A.Pairwise (fun x y => x.id < y.id)) {e : En} (he : e ∈ A) : e.id ≤ lastE A := by
  unfold lastE
  cases hl : A.getLast? with
  | none => rw [List.getLast?_eq_none_iff] at hl; subst hl; cases he
  | some z =>
    obtain ⟨r, rfl⟩ := List.getLast?_eq_some_iff.1 hl
    simp only
    rcases List.mem_append.1 he with he | he
    · exact Nat.le_of_lt ((List.pairwise_append.1 h).2.2 e he z (by simp))
    · simp at he; subst he; exact Nat.le_refl _
theorem lastE_snoc (A : List En) (e : En) : lastE (A ++ [e]) = e.id := by unfold lastE; simp
theorem deadE_id (id : Nat) (e : En) : (deadE id e).id = e.id := by unfold deadE; split <;> rfl
theorem lastE_dead (A : List En) (id : Nat) : lastE (A.map (deadE id)) = lastE A := by
  unfold lastE
  rw [List.getLast?_map]
  cases A.getLast? with
  | none => rfl
  | some e => exact deadE_id id e
theorem liveE_snoc {A : List En} {e : En} (hl : e.live = true) (id : Nat) : liveE (A ++ [e]) id = (liveE A id || e.id == id) := by
  rw [Bool.eq_iff_iff, Bool.or_eq_true, liveE_iff, liveE_iff, beq_iff_eq]
  constructor
  · rintro ⟨x, hx, h1, h2⟩
    rcases List.mem_append.1 hx with hx | hx
    · exact .inl ⟨x, hx, h1, h2⟩
    · simp at hx; subst hx; exact .inr h1
  · rintro (⟨x, hx, h1, h2⟩ | h)
    · exact ⟨x, List.mem_append_left _ hx, h1, h2⟩
    · exact ⟨e, by simp, h, hl⟩
theorem liveE_dead (A : List En) (id k : Nat) : liveE (A.map (deadE id)) k = (liveE A k && !(k == id)) := by
  rw [Bool.eq_iff_iff, Bool.and_eq_true, liveE_iff, liveE_iff]
  constructor
  · rintro ⟨x, hx, h1, h2⟩
    obtain ⟨y, hy, rfl⟩ := List.mem_map.1 hx
    rw [deadE_id] at h1
    unfold deadE at h2
    split at h2
    · cases h2
    · rename_i hne
      exact ⟨⟨y, hy, h1, h2⟩, by simp; omega⟩
  · rintro ⟨⟨y, hy, h1, h2⟩, h3⟩
    have hne : ¬ y.id = id := by simp at h3; omega
    refine ⟨deadE id y, List.mem_map.2 ⟨y, hy, rfl⟩, (deadE_id id y).trans h1, ?_⟩
    unfold deadE
    rw [if_neg hne]
    exact h2
theorem ofX_cons (s : Nat × Nat) (r : List (Nat × Nat)) (n : Nat) : ofX (s :: r) n = if s.1 = n then s.2 :: ofX r n else ofX r n := by
  unfold ofX
  rw [List.filter_cons]
  by_cases h : s.1 = n
  · have : (s.1 == n) = true := by simpa using h
    rw [this, if_pos h]; rfl
  · have : (s.1 == n) = false := by simpa using h
    rw [this, if_neg h]; rfl
theorem ofX_app (S T : List (Nat × Nat)) (n : Nat) : ofX (S ++ T) n = ofX S n ++ ofX T n := by unfold ofX; rw [List.filter_append, List.map_append]
theorem ofX_mem {S : List (Nat × Nat)} {n k : Nat} : k ∈ ofX S n ↔ (n, k) ∈ S := by
  unfold ofX
  rw [List.mem_map]
  constructor
  · rintro ⟨s, hs, rfl⟩
    obtain ⟨h1, h2⟩ := List.mem_filter.1 hs
    rw [beq_iff_eq] at h2
    rw [← h2]
    exact h1
  · intro h
    exact ⟨(n, k), List.mem_filter.2 ⟨h, by simp⟩, rfl⟩
theorem ofX_new (ns : List Nat) (hn : ns.Nodup) (id m : Nat) : ofX (ns.map fun n => (n, id)) m = if m ∈ ns then [id] else [] := by
  induction ns with
  | nil => rfl
  | cons n r ih =>
    obtain ⟨h1, h2⟩ := List.nodup_cons.1 hn
    rw [List.map_cons, ofX_cons, ih h2]
    by_cases h : n = m
    · subst h
      simp only [if_pos, List.mem_cons_self]
      rw [if_neg h1]
    · rw [if_neg h]
      have : (m ∈ n :: r) ↔ m ∈ r := by rw [List.mem_cons]; exact ⟨fun hh => hh.resolve_left (fun e => h e.symm), .inr⟩
      simp only [this]
theorem cutL_of_same (n : Nat) : ∀ (S : List (Nat × Nat)) (i : Nat), ofX (cutL n S i) n = (ofX S n).eraseIdx i
  | [], i => by unfold cutL; simp [ofX]
  | s :: r, i => by
    unfold cutL
    by_cases h : s.1 = n
    · rw [if_pos h, ofX_cons s r, if_pos h]
      cases i with
      | zero => rfl
      | succ i =>
        show ofX (s :: cutL n r i) n = _
        rw [ofX_cons, if_pos h, cutL_of_same n r i]
        rfl
    · rw [if_neg h, ofX_cons, if_neg h, ofX_cons, if_neg h, cutL_of_same n r i]
theorem cutL_of_other {n m : Nat} (hm : m ≠ n) : ∀ (S : List (Nat × Nat)) (i : Nat), ofX (cutL n S i) m = ofX S m
  | [], i => rfl
  | s :: r, i => by
    unfold cutL
    by_cases h : s.1 = n
    · rw [if_pos h, ofX_cons s r, if_neg (by omega)]
      cases i with
      | zero => rfl
      | succ i =>
        show ofX (s :: cutL n r i) m = _
        rw [ofX_cons, if_neg (by omega), cutL_of_other hm r i]
    · rw [if_neg h, ofX_cons, ofX_cons, cutL_of_other hm r i]
theorem cutL_sub (n : Nat) : ∀ (S : List (Nat × Nat)) (i : Nat), (cutL n S i).Sublist S
  | [], i => List.Sublist.refl _
  | s :: r, i => by
    unfold cutL
    by_cases h : s.1 = n
    · rw [if_pos h]
      cases i with
      | zero => exact List.sublist_cons_self _ _
      | succ i => exact List.Sublist.cons_cons _ (cutL_sub n r i)
    · rw [if_neg h]
      exact List.Sublist.cons_cons _ (cutL_sub n r i)
/-- What is cut is one slot. -/
theorem cutL_count (p : Nat × Nat → Bool) (n : Nat) : ∀ (S : List (Nat × Nat)) (i k : Nat), (ofX S n)[i]? = some k → S.countP p = (cutL n S i).countP p + (if p (n, k) = true then 1 else 0)
  | [], i, k, h => by simp [ofX] at h
  | s :: r, i, k, h => by
    unfold cutL
    rw [ofX_cons] at h
    by_cases hs : s.1 = n
    · rw [if_pos hs] at h ⊢
      cases i with
      | zero =>
        simp only [List.getElem?_cons_zero, Option.some.injEq] at h
        have e : s = (n, k) := by rw [← hs, ← h]
        subst e
        exact List.countP_cons
      | succ i =>
        show _ = (s :: cutL n r i).countP p + _
        rw [List.countP_cons, List.countP_cons, cutL_count p n r i k (by simpa using h)]
        omega
    · rw [if_neg hs] at h ⊢
      rw [List.countP_cons, List.countP_cons, cutL_count p n r i k h]
      omega
theorem cutL_len {n : Nat} {S : List (Nat × Nat)} {i k : Nat} (h : (ofX S n)[i]? = some k) : S.length = (cutL n S i).length + 1 := by
  have := cutL_count (fun _ => true) n S i k h
  rw [List.countP_eq_length.2 (fun _ _ => rfl), List.countP_eq_length.2 (fun _ _ => rfl)] at this
  simpa using this
theorem cutL_filter (p : Nat × Nat → Bool) (n : Nat) : ∀ (S : List (Nat × Nat)) (i k : Nat), (ofX S n)[i]? = some k → p (n, k) = false → (cutL n S i).filter p = S.filter p
  | [], i, k, h, _ => by simp [ofX] at h
  | s :: r, i, k, h, hp => by
    unfold cutL
    rw [ofX_cons] at h
    by_cases hs : s.1 = n
    · rw [if_pos hs] at h ⊢
      cases i with
      | zero =>
        simp only [List.getElem?_cons_zero, Option.some.injEq] at h
        have e : s = (n, k) := by rw [← hs, ← h]
        subst e
        rw [List.filter_cons, hp]
        rfl
      | succ i =>
        show (s :: cutL n r i).filter p = _
        rw [List.filter_cons, List.filter_cons, cutL_filter p n r i k (by simpa using h) hp]
    · rw [if_neg hs] at h ⊢
      rw [List.filter_cons, List.filter_cons, cutL_filter p n r i k h hp]

/-- What holds of the document's index. -/
structure Iw (most R : Int) (d : Dx) : Prop where
  wf : Wf most R d.nm
  ids : d.all.Pairwise (fun x y => x.id < y.id)
  pos : ∀ e ∈ d.all, 0 < e.id
  len : ∀ e ∈ d.all, e.nums.length = e.tags.length ∧ e.nums.Nodup ∧ tagsB e.tags = true
  num : ∀ e ∈ d.all, e.live = true → ∀ (i n : Nat), e.nums[i]? = some n → ∃ t, e.tags[i]? = some t ∧ (nmAt d.nm n).1 = t
  refs : ∀ n, (nmAt d.nm n).2 = (d.all.countP (fun e => e.live && e.nums.contains n) : Int)
  sl1 : ∀ s ∈ d.sl, ∃ e ∈ d.all, e.id = s.2
  sl2 : ∀ e ∈ d.all, e.live = true → d.sl.filter (fun s => s.2 == e.id) = e.nums.map (fun n => (n, e.id))
  srt : d.sl.Pairwise (fun a b => a.2 ≤ b.2)
  nlt : ∀ s ∈ d.sl, (s.1 : Int) < most
theorem tagsB_is {ts : List (List UInt8)} (h : tagsB ts = true) : (∀ t ∈ ts, validB t = true) ∧ ts.Pairwise (· < ·) ∧ ts.length ≤ 16 ∧ ts.Nodup := by
  unfold tagsB at h
  rw [Bool.and_eq_true, Bool.and_eq_true, decide_eq_true_eq, decide_eq_true_eq, List.all_eq_true] at h
  exact ⟨h.1.1, h.1.2, h.2, h.1.2.imp fun h e => by subst e; exact List.lt_irrefl _ h⟩
theorem Iw.start (most : Int) (hm : 0 ≤ most) : Iw most 0 ⟨[], [], []⟩ :=
  ⟨Wf.nil most 0 hm (Int.le_refl _), List.Pairwise.nil, fun _ h => (by cases h), fun _ h => (by cases h), fun _ h => (by cases h), fun n => rfl, fun _ h => (by cases h), fun _ h => (by cases h), List.Pairwise.nil, fun _ h => (by cases h)⟩
section
variable {most R : Int} {d : Dx}
theorem Iw.mono (h : Iw most R d) {R' : Int} (hR : R ≤ R') : Iw most R' d := ⟨h.wf.mono hR, h.ids, h.pos, h.len, h.num, h.refs, h.sl1, h.sl2, h.srt, h.nlt⟩
theorem Iw.numLive (h : Iw most R d) {e : En} (he : e ∈ d.all) (hl : e.live = true) {n : Nat} (hn : n ∈ e.nums) : liveB d.nm n = true := by
  unfold liveB
  rw [h.refs n, decide_eq_true_eq]
  have : 0 < d.all.countP (fun e => e.live && e.nums.contains n) := List.countP_pos_iff.2 ⟨e, he, by simp [hl, hn]⟩
  omega
theorem Iw.add (h : Iw most R d) (hR : 0 ≤ R) (id : Nat) (ts : List (List UInt8)) : Iw most (R + 16) (d.add most id ts).1 := by
  unfold Dx.add
  by_cases h1 : id ≤ lastE d.all ∨ tagsB ts = false
  · rw [if_pos h1]; exact h.mono (by omega)
  · rw [if_neg h1]
    rw [not_or] at h1
    obtain ⟨h1, h2⟩ := h1
    have ht : tagsB ts = true := by simpa using h2
    obtain ⟨t1, t2, t3, t4⟩ := tagsB_is ht
    have hadd := adds_is h.wf hR t4 t1
    split
    · rename_i he
      rw [he] at hadd
      generalize (addsM most d.nm ts).2.1 = ns at *
      generalize (addsM most d.nm ts).1 = l1 at *
      have hlt : ∀ e ∈ d.all, e.id < id := fun e he => by have := last_le h.ids he; omega
      refine ⟨hadd.wf.mono (by omega), ?_, ?_, ?_, ?_, ?_, ?_, ?_, ?_, ?_⟩
      · refine List.pairwise_append.2 ⟨h.ids, List.pairwise_singleton _ _, fun x hx y hy => ?_⟩
        simp at hy; subst hy
        exact hlt x hx
      · intro e he
        rcases List.mem_append.1 he with he | he
        · exact h.pos e he
        · simp at he; subst he; show 0 < id; omega
      · intro e he
        rcases List.mem_append.1 he with he | he
        · exact h.len e he
        · simp at he; subst he; exact ⟨hadd.all rfl, hadd.nodup, ht⟩
      · intro e he hl i n hn
        rcases List.mem_append.1 he with he | he
        · obtain ⟨t, e1, e2⟩ := h.num e he hl i n hn
          exact ⟨t, e1, (hadd.name n (h.numLive he hl (List.mem_of_getElem? hn))).trans e2⟩
        · simp at he; subst he
          exact hadd.at_ i n hn
      · intro n
        rw [hadd.refs n, h.refs n, List.countP_append]
        have : ([⟨id, ts, ns, true⟩] : List En).countP (fun e => e.live && e.nums.contains n) = if n ∈ ns then 1 else 0 := by
          rw [List.countP_cons, List.countP_nil]
          simp
        rw [this]
        split <;> simp
      · intro s hs
        rcases List.mem_append.1 hs with hs | hs
        · obtain ⟨e, he, e2⟩ := h.sl1 s hs
          exact ⟨e, List.mem_append_left _ he, e2⟩
        · obtain ⟨n, _, rfl⟩ := List.mem_map.1 hs
          exact ⟨⟨id, ts, ns, true⟩, by simp, rfl⟩
      · intro e he hl
        rw [List.filter_append]
        rcases List.mem_append.1 he with he | he
        · rw [h.sl2 e he hl]
          have : (ns.map fun n => (n, id)).filter (fun s => s.2 == e.id) = [] := by
            rw [List.filter_eq_nil_iff]
            intro s hs
            obtain ⟨n, _, rfl⟩ := List.mem_map.1 hs
            have := hlt e he
            simp; omega
          rw [this, List.append_nil]
        · simp at he; subst he
          have e1 : d.sl.filter (fun s => s.2 == id) = [] := by
            rw [List.filter_eq_nil_iff]
            intro s hs
            obtain ⟨e, he, e2⟩ := h.sl1 s hs
            have := hlt e he
            simp; omega
          rw [e1, List.nil_append, List.filter_eq_self.2]
          intro s hs
          obtain ⟨n, _, rfl⟩ := List.mem_map.1 hs
          simp
      · refine List.pairwise_append.2 ⟨h.srt, ?_, fun a ha b hb => ?_⟩
        · rw [List.pairwise_map]
          exact List.pairwise_of_forall (fun _ _ => Nat.le_refl _)
        · obtain ⟨n, _, rfl⟩ := List.mem_map.1 hb
          obtain ⟨e, he, e2⟩ := h.sl1 a ha
          have := hlt e he
          show a.2 ≤ id
          omega
      · intro s hs
        rcases List.mem_append.1 hs with hs | hs
        · exact h.nlt s hs
        · obtain ⟨n, hn, rfl⟩ := List.mem_map.1 hs
          have h5 : liveB l1 n = true := by
            unfold liveB
            rw [hadd.refs n, if_pos hn, decide_eq_true_eq]
            have := (h.wf.refs n).1
            omega
          have := live_lt h5
          have := hadd.wf.size
          show (n : Int) < most
          omega
    · exact h.mono (by omega)
theorem Iw.rels (h : Iw most R d) {e : En} (he : e ∈ d.all) (hl : e.live = true) : (∀ m, nmAt (relsM d.nm e.nums).1 m = (if m ∈ e.nums then (if 1 < (nmAt d.nm m).2 then ((nmAt d.nm m).1, (nmAt d.nm m).2 - 1) else ([], 0)) else nmAt d.nm m)) ∧ (relsM d.nm e.nums).2 = e.nums.filter (fun n => decide (¬ 1 < (nmAt d.nm n).2)) :=
  rels_spec (h.len e he).2.1 (fun n hn => h.numLive he hl hn)
theorem count_dead : ∀ {A : List En}, A.Pairwise (fun x y => x.id < y.id) → ∀ {e : En}, e ∈ A → e.live = true → ∀ (n : Nat), A.countP (fun e => e.live && e.nums.contains n) = (A.map (deadE e.id)).countP (fun e => e.live && e.nums.contains n) + (if n ∈ e.nums then 1 else 0)
  | [], _, e, h, _, _ => by cases h
  | z :: r, hp, e, h, hl, n => by
    obtain ⟨h1, h2⟩ := List.pairwise_cons.1 hp
    rw [List.map_cons, List.countP_cons, List.countP_cons]
    rcases List.mem_cons.1 h with rfl | h
    · have e1 : r.map (deadE e.id) = r := by
        conv => rhs; rw [← List.map_id r]
        refine List.map_congr_left (fun x hx => ?_)
        unfold deadE
        rw [if_neg (by have := h1 x hx; omega)]
        rfl
      have e2 : (deadE e.id e).live = false := by unfold deadE; rw [if_pos rfl]
      rw [e1, e2, hl]
      simp
    · have hne : ¬ z.id = e.id := by have := h1 e h; omega
      have e2 : deadE e.id z = z := by unfold deadE; rw [if_neg hne]
      rw [e2, count_dead h2 h hl n]
      omega
theorem Iw.drop (h : Iw most R d) (id : Nat) : Iw most R (d.drop id).1 := by
  unfold Dx.drop
  cases hg : getE d.all id with
  | none => exact h
  | some e =>
    obtain ⟨he, hi, hl⟩ := getE_some hg
    obtain ⟨hr, _⟩ := h.rels he hl
    subst hi
    have hcd := count_dead h.ids he hl
    have hback : ∀ y ∈ d.all.map (deadE e.id), y.live = true → y ∈ d.all ∧ y.id ≠ e.id := by
      intro y hy hyl
      obtain ⟨z, hz, rfl⟩ := List.mem_map.1 hy
      unfold deadE at hyl ⊢
      split at hyl
      · cases hyl
      · rename_i hne
        rw [if_neg hne]
        exact ⟨hz, hne⟩
    refine ⟨rels_wf h.wf, ?_, ?_, ?_, ?_, ?_, ?_, ?_, h.srt, h.nlt⟩
    · rw [List.pairwise_map]
      exact h.ids.imp (fun hxy => by rw [deadE_id, deadE_id]; exact hxy)
    · intro y hy
      obtain ⟨z, hz, rfl⟩ := List.mem_map.1 hy
      rw [deadE_id]
      exact h.pos z hz
    · intro y hy
      obtain ⟨z, hz, rfl⟩ := List.mem_map.1 hy
      have := h.len z hz
      unfold deadE
      split
      · exact this
      · exact this
    · intro y hy hyl i n hn
      obtain ⟨hy2, hne⟩ := hback y hy hyl
      obtain ⟨t, t1, t2⟩ := h.num y hy2 hyl i n hn
      refine ⟨t, t1, ?_⟩
      show (nmAt (relsM d.nm e.nums).1 n).1 = t
      rw [hr n]
      by_cases hm : n ∈ e.nums
      · have h2 : 2 ≤ d.all.countP (fun e => e.live && e.nums.contains n) := by
          rw [hcd n, if_pos hm]
          have : 0 < (d.all.map (deadE e.id)).countP (fun e => e.live && e.nums.contains n) := List.countP_pos_iff.2 ⟨y, hy, by simp [hyl, List.mem_of_getElem? hn]⟩
          omega
        rw [if_pos hm, if_pos (by rw [h.refs n]; omega)]
        exact t2
      · rw [if_neg hm]; exact t2
    · intro n
      show (nmAt (relsM d.nm e.nums).1 n).2 = _
      have hc := hcd n
      have h0 := h.refs n
      rw [hr n]
      show _ = (((d.all.map (deadE e.id)).countP (fun e => e.live && e.nums.contains n) : Nat) : Int)
      by_cases hm : n ∈ e.nums
      · rw [if_pos hm] at hc ⊢
        split
        · show (nmAt d.nm n).2 - 1 = _; omega
        · show (0 : Int) = _; omega
      · rw [if_neg hm] at hc ⊢
        omega
    · intro s hs
      obtain ⟨y, hy, e2⟩ := h.sl1 s hs
      exact ⟨deadE e.id y, List.mem_map.2 ⟨y, hy, rfl⟩, (deadE_id _ _).trans e2⟩
    · intro y hy hyl
      exact h.sl2 y (hback y hy hyl).1 hyl
theorem Iw.cut (h : Iw most R d) (n i : Int) : Iw most R (d.cut n i).1 := by
  unfold Dx.cut
  split
  · split
    · cases hk : (ofX d.sl n.toNat)[i.toNat]? with
      | none => exact h
      | some k =>
        simp only
        split
        · exact h
        · rename_i hl
          refine ⟨h.wf, h.ids, h.pos, h.len, h.num, h.refs, fun s hs => h.sl1 s ((cutL_sub _ _ _).subset hs), fun e he hel => ?_, h.srt.sublist (cutL_sub _ _ _), fun s hs => h.nlt s ((cutL_sub _ _ _).subset hs)⟩
          show (cutL n.toNat d.sl i.toNat).filter _ = _
          rw [cutL_filter (fun s => s.2 == e.id) _ _ _ _ hk ?_]
          · exact h.sl2 e he hel
          · show (k == e.id) = false
            rw [beq_eq_false_iff_ne]
            intro e2
            exact hl (liveE_iff.2 ⟨e, he, e2.symm, hel⟩)
    · exact h
  · exact h
end
end Go.Proofs.YtfpkeinknhijaaaGreat
namespace Go.Proofs.YtfpkeinknhijaaaGreat
set_option linter.unusedVariables false

theorem sorted_eq : ∀ {l m : List Nat}, l.Pairwise (· < ·) → m.Pairwise (· < ·) → (∀ k, k ∈ l ↔ k ∈ m) → l = m
  | [], [], _, _, _ => rfl
  | [], y :: m, _, _, h => absurd ((h y).2 List.mem_cons_self) (by simp)
  | x :: l, [], _, _, h => absurd ((h x).1 List.mem_cons_self) (by simp)
  | x :: l, y :: m, hl, hm, h => by
    obtain ⟨l1, l2⟩ := List.pairwise_cons.1 hl
    obtain ⟨m1, m2⟩ := List.pairwise_cons.1 hm
    have e : x = y := by
      rcases List.mem_cons.1 ((h x).1 List.mem_cons_self) with h1 | h1
      · exact h1
      · rcases List.mem_cons.1 ((h y).2 List.mem_cons_self) with h2 | h2
        · exact h2.symm
        · have := m1 x h1
          have := l1 y h2
          omega
    subst e
    have := sorted_eq l2 m2 (fun k => by
      constructor
      · intro hk
        rcases List.mem_cons.1 ((h k).1 (List.mem_cons_of_mem _ hk)) with h1 | h1
        · have := l1 k hk; omega
        · exact h1
      · intro hk
        rcases List.mem_cons.1 ((h k).2 (List.mem_cons_of_mem _ hk)) with h1 | h1
        · have := m1 k hk; omega
        · exact h1)
    rw [this]
theorem filter_one {α : Type} [BEq α] [LawfulBEq α] (t : α) : ∀ {l : List α}, l.Nodup → l.filter (· == t) = if l.contains t = true then [t] else []
  | [], _ => rfl
  | x :: r, h => by
    obtain ⟨h1, h2⟩ := List.nodup_cons.1 h
    rw [List.filter_cons, filter_one t h2, List.contains_cons]
    by_cases e : x = t
    · subst e
      simp [h1]
    · have e1 : (x == t) = false := by simpa using e
      have e2 : (t == x) = false := by simpa using (fun e' => e e'.symm)
      rw [e1, e2]
      simp
section
variable {most R : Int} {d : Dx}
def hasT (t : List UInt8) (e : En) : Bool := e.live && e.tags.contains t
theorem rightX_is : ∀ {A : List En}, (∀ e ∈ A, e.tags.Nodup) → ∀ (t : List UInt8), rightX A t = (A.filter (hasT t)).map (·.id)
  | [], _, _ => rfl
  | e :: r, h, t => by
    have ih := rightX_is (A := r) (fun x hx => h x (List.mem_cons_of_mem _ hx)) t
    unfold rightX at ih ⊢
    rw [List.flatMap_cons, ih, List.filter_cons, filter_one t (h e List.mem_cons_self)]
    unfold hasT
    cases e.live
    · rfl
    · cases e.tags.contains t
      · rfl
      · rfl
theorem Iw.tagNum (h : Iw most R d) {e : En} (he : e ∈ d.all) (hl : e.live = true) {n : Nat} (hn : liveB d.nm n = true) : n ∈ e.nums ↔ (nmAt d.nm n).1 ∈ e.tags := by
  constructor
  · intro hm
    obtain ⟨i, hi⟩ := List.getElem?_of_mem hm
    obtain ⟨t, t1, t2⟩ := h.num e he hl i n hi
    rw [t2]
    exact List.mem_of_getElem? t1
  · intro hm
    obtain ⟨i, hi⟩ := List.getElem?_of_mem hm
    obtain ⟨hi', _⟩ := List.getElem?_eq_some_iff.1 hi
    have hlt : i < e.nums.length := by rw [(h.len e he).1]; exact hi'
    have hm2 : e.nums[i] ∈ e.nums := List.getElem_mem hlt
    obtain ⟨t, t1, t2⟩ := h.num e he hl i e.nums[i] (List.getElem?_eq_getElem hlt)
    rw [hi] at t1
    injection t1 with t1
    rw [← h.wf.dist n e.nums[i] hn (h.numLive he hl hm2) (t1.trans t2.symm)] at hm2
    exact hm2
theorem Iw.slot (h : Iw most R d) {e : En} (he : e ∈ d.all) (hl : e.live = true) (n : Nat) : (n, e.id) ∈ d.sl ↔ n ∈ e.nums := by
  have h1 := h.sl2 e he hl
  have : (n, e.id) ∈ d.sl ↔ (n, e.id) ∈ d.sl.filter (fun s => s.2 == e.id) := by simp
  rw [this, h1, List.mem_map]
  constructor
  · rintro ⟨m, hm, e2⟩
    injection e2 with e2
    exact e2 ▸ hm
  · intro hm
    exact ⟨n, hm, rfl⟩
theorem ofX_le (h : Iw most R d) (n : Nat) : (ofX d.sl n).Pairwise (· ≤ ·) := by
  unfold ofX
  rw [List.pairwise_map]
  exact h.srt.filter _
theorem ofX_count (S : List (Nat × Nat)) (n k : Nat) : (ofX S n).count k = ((S.filter fun s => s.2 == k).map (·.1)).count n := by
  induction S with
  | nil => rfl
  | cons s r ih =>
    rw [ofX_cons, List.filter_cons]
    by_cases h1 : s.1 = n
    · by_cases h2 : s.2 = k
      · rw [if_pos h1, if_pos (by simpa using h2), List.count_cons, List.map_cons, List.count_cons, ih]
        simp [h1, h2]
      · rw [if_pos h1, if_neg (by simpa using h2), List.count_cons, ih]
        simp [h2]
    · by_cases h2 : s.2 = k
      · rw [if_neg h1, if_pos (by simpa using h2), List.map_cons, List.count_cons, ih]
        simp [h1]
      · rw [if_neg h1, if_neg (by simpa using h2), ih]
theorem Iw.right (h : Iw most R d) {n : Nat} (hn : liveB d.nm n = true) : (ofX d.sl n).filter (fun k => liveE d.all k) = rightX d.all (nmAt d.nm n).1 := by
  rw [rightX_is (fun e he => (tagsB_is (h.len e he).2.2).2.2.2)]
  refine sorted_eq ?_ ?_ (fun k => ?_)
  · have h1 := (ofX_le h n).filter (fun k => liveE d.all k)
    have h2 : ((ofX d.sl n).filter (fun k => liveE d.all k)).Nodup := by
      rw [List.nodup_iff_count]
      intro k
      by_cases hk : liveE d.all k = true
      · obtain ⟨e, he, rfl, hl⟩ := liveE_iff.1 hk
        refine Nat.le_trans (List.Sublist.count_le _ List.filter_sublist) ?_
        rw [ofX_count, h.sl2 e he hl, List.map_map]
        have : (e.nums.map ((·.1) ∘ fun n => (n, e.id))) = e.nums := List.map_id _
        rw [this]
        exact List.nodup_iff_count.1 (h.len e he).2.1 n
      · rw [List.count_eq_zero_of_not_mem]
        · exact Nat.zero_le _
        · intro hm
          exact hk (List.mem_filter.1 hm).2
    exact (List.pairwise_and_iff.2 ⟨h1, h2⟩).imp (fun hab => Nat.lt_of_le_of_ne hab.1 hab.2)
  · rw [List.pairwise_map]
    exact h.ids.filter _
  · rw [List.mem_filter, ofX_mem, List.mem_map]
    constructor
    · rintro ⟨h1, h2⟩
      obtain ⟨e, he, rfl, hl⟩ := liveE_iff.1 h2
      refine ⟨e, List.mem_filter.2 ⟨he, ?_⟩, rfl⟩
      unfold hasT
      rw [hl, Bool.true_and, List.contains_iff_mem]
      exact (h.tagNum he hl hn).1 ((h.slot he hl n).1 h1)
    · rintro ⟨e, he, rfl⟩
      obtain ⟨he, ht⟩ := List.mem_filter.1 he
      unfold hasT at ht
      rw [Bool.and_eq_true, List.contains_iff_mem] at ht
      exact ⟨(h.slot he ht.1 n).2 ((h.tagNum he ht.1 hn).2 ht.2), liveE_iff.2 ⟨e, he, rfl, ht.1⟩⟩
/-- A tag that no name has: no live entry has it. -/
theorem Iw.right_none (h : Iw most R d) {t : List UInt8} (hf : findN d.nm t = none) : rightX d.all t = [] := by
  rw [rightX_is (fun e he => (tagsB_is (h.len e he).2.2).2.2.2), List.map_eq_nil_iff, List.filter_eq_nil_iff]
  intro e he ht
  unfold hasT at ht
  rw [Bool.and_eq_true, List.contains_iff_mem] at ht
  obtain ⟨i, hi⟩ := List.getElem?_of_mem ht.2
  obtain ⟨hi', _⟩ := List.getElem?_eq_some_iff.1 hi
  have hlt : i < e.nums.length := by rw [(h.len e he).1]; exact hi'
  obtain ⟨t', t1, t2⟩ := h.num e he ht.1 i e.nums[i] (List.getElem?_eq_getElem hlt)
  rw [hi] at t1
  injection t1 with t1
  exact findN_none hf _ (h.numLive he ht.1 (List.getElem_mem hlt)) (t2.trans t1.symm)
/-- A name has a live entry. -/
theorem Iw.right_ne (h : Iw most R d) {n : Nat} (hn : liveB d.nm n = true) : rightX d.all (nmAt d.nm n).1 ≠ [] := by
  rw [← h.right hn]
  have h0 := hn
  unfold liveB at h0
  rw [h.refs n, decide_eq_true_eq] at h0
  have h1 : 0 < d.all.countP (fun e => e.live && e.nums.contains n) := by omega
  obtain ⟨e, he, h2⟩ := List.countP_pos_iff.1 h1
  rw [Bool.and_eq_true, List.contains_iff_mem] at h2
  intro e0
  have : e.id ∈ (ofX d.sl n).filter (fun k => liveE d.all k) := List.mem_filter.2 ⟨ofX_mem.2 ((h.slot he h2.1 n).2 h2.2), liveE_iff.2 ⟨e, he, rfl, h2.1⟩⟩
  rw [e0] at this
  cases this
theorem wrong_congr {A A' : List En} {S : List (Nat × Nat)} (h : ∀ s ∈ S, liveE A s.2 = liveE A' s.2) : wrongX A S = wrongX A' S := by
  unfold wrongX
  exact List.countP_congr (fun s hs => by simp only [h s hs])
theorem Iw.wrong_add (h : Iw most R d) {id : Nat} {ts : List (List UInt8)} (hid : lastE d.all < id) (ns : List Nat) : wrongX (d.all ++ [⟨id, ts, ns, true⟩]) (d.sl ++ ns.map (fun n => (n, id))) = wrongX d.all d.sl := by
  unfold wrongX
  rw [List.countP_append]
  have e1 : (ns.map (fun n => (n, id))).countP (fun s => !liveE (d.all ++ [⟨id, ts, ns, true⟩]) s.2) = 0 := by
    rw [List.countP_eq_zero]
    intro s hs
    obtain ⟨n, _, rfl⟩ := List.mem_map.1 hs
    rw [liveE_snoc rfl]
    simp
  rw [e1, Nat.add_zero]
  refine List.countP_congr (fun s hs => ?_)
  obtain ⟨e, he, e2⟩ := h.sl1 s hs
  have h1 := last_le h.ids he
  rw [liveE_snoc rfl]
  have e3 : (id == s.2) = false := by simp; omega
  show (!(liveE d.all s.2 || id == s.2)) = true ↔ _
  rw [e3, Bool.or_false]
theorem Iw.wrong_drop (h : Iw most R d) {e : En} (he : e ∈ d.all) (hl : e.live = true) : wrongX (d.all.map (deadE e.id)) d.sl = wrongX d.all d.sl + e.nums.length := by
  unfold wrongX
  have h1 : e.nums.length = d.sl.countP (fun s => s.2 == e.id) := by
    rw [List.countP_eq_length_filter, h.sl2 e he hl, List.length_map]
  rw [h1]
  have hlv : liveE d.all e.id = true := liveE_iff.2 ⟨e, he, rfl, hl⟩
  clear h1 h
  induction d.sl with
  | nil => rfl
  | cons s r ih =>
    rw [List.countP_cons, List.countP_cons, List.countP_cons, ih, liveE_dead]
    by_cases e2 : s.2 = e.id
    · rw [e2, hlv]
      simp
      omega
    · have e3 : (s.2 == e.id) = false := by simpa using e2
      rw [e3]
      simp
      omega
theorem wrong_cut {A : List En} {S : List (Nat × Nat)} {n i k : Nat} (h : (ofX S n)[i]? = some k) (hl : ¬ liveE A k = true) : wrongX A S = wrongX A (cutL n S i) + 1 := by
  unfold wrongX
  rw [cutL_count _ n S i k h]
  have : (!liveE A k) = true := by simpa using hl
  rw [if_pos this]
theorem wrong_le (A : List En) (S : List (Nat × Nat)) : wrongX A S ≤ S.length := List.countP_le_length
/-- The lowest number that has slots. -/
theorem nextX_some {S : List (Nat × Nat)} {k n : Nat} (h : nextX S k = some n) : k ≤ n ∧ ofX S n ≠ [] ∧ ∀ m, k ≤ m → ofX S m ≠ [] → n ≤ m := by
  unfold nextX at h
  rw [List.min?_eq_some_iff] at h
  obtain ⟨h1, h2⟩ := h
  obtain ⟨h3, h4⟩ := List.mem_filter.1 h1
  obtain ⟨s, hs, rfl⟩ := List.mem_map.1 h3
  refine ⟨by simpa using h4, fun e0 => ?_, fun m hm hne => h2 m (List.mem_filter.2 ⟨?_, by simpa using hm⟩)⟩
  · have := ofX_mem.2 (show (s.1, s.2) ∈ S from hs)
    rw [e0] at this
    cases this
  · obtain ⟨j, hj⟩ := List.exists_mem_of_ne_nil _ hne
    exact List.mem_map.2 ⟨_, ofX_mem.1 hj, rfl⟩
theorem nextX_none {S : List (Nat × Nat)} {k : Nat} (h : nextX S k = none) : ∀ m, k ≤ m → ofX S m = [] := by
  unfold nextX at h
  rw [List.min?_eq_none_iff, List.filter_eq_nil_iff] at h
  intro m hm
  cases he : ofX S m with
  | nil => rfl
  | cons j r =>
    exfalso
    have : j ∈ ofX S m := by rw [he]; exact List.mem_cons_self
    exact h m (List.mem_map.2 ⟨_, ofX_mem.1 this, rfl⟩) (by simpa using hm)
theorem nextX_eq {S : List (Nat × Nat)} {k n : Nat} (h1 : k ≤ n) (h2 : ofX S n ≠ []) (h3 : ∀ m, k ≤ m → ofX S m ≠ [] → n ≤ m) : nextX S k = some n := by
  cases h : nextX S k with
  | none => exact absurd (nextX_none h n h1) h2
  | some m =>
    obtain ⟨a, b, c⟩ := nextX_some h
    have := c n h1 h2
    have := h3 m a b
    congr 1
    omega
theorem nextX_eqn {S : List (Nat × Nat)} {k : Nat} (h : ∀ m, k ≤ m → ofX S m = []) : nextX S k = none := by
  cases h1 : nextX S k with
  | none => rfl
  | some n =>
    obtain ⟨a, b, c⟩ := nextX_some h1
    exact absurd (h n a) b
end
end Go.Proofs.YtfpkeinknhijaaaGreat
