/- The document's index of entries by their tags: entries, slots, and what calls keep. -/
import Derived.Test.YthngkimncdpekaaRevP
namespace Go.Proofs.Ythngkimncdpekaa
set_option linter.unusedVariables false


structure En where
  id : Nat
  tags : List (List UInt8)
  nums : List Nat
  live : Bool
structure Dx where
  nm : Nms
  all : List En
  sl : List (Nat × Nat)
def getE (A : List En) (id : Nat) : Option En := A.find? fun e => e.id == id && e.live
def liveE (A : List En) (id : Nat) : Bool := (getE A id).isSome
def lastE (A : List En) : Nat := match A.getLast? with | some e => e.id | none => 0
def tagsB (ts : List (List UInt8)) : Bool := ts.all validB && decide (ts.Pairwise (· < ·)) && decide (ts.length ≤ 16)
def ofX (S : List (Nat × Nat)) (n : Nat) : List Nat := (S.filter fun s => s.1 == n).map (·.2)
def wrongX (A : List En) (S : List (Nat × Nat)) : Nat := S.countP fun s => !liveE A s.2
def deadE (id : Nat) (e : En) : En := if e.id = id then { e with live := false } else e
def cutL (n : Nat) : List (Nat × Nat) → Nat → List (Nat × Nat)
  | [], _ => []
  | s :: r, i => if s.1 = n then (match i with | 0 => r | i + 1 => s :: cutL n r i) else s :: cutL n r i
def rightX (A : List En) (t : List UInt8) : List Nat := A.flatMap fun e => if e.live = true then (e.tags.filter (· == t)).map (fun _ => e.id) else []
def nextX (S : List (Nat × Nat)) (k : Nat) : Option Nat := ((S.map (·.1)).filter (fun n => decide (k ≤ n))).min?
def Dx.add (most : Int) (d : Dx) (id : Nat) (ts : List (List UInt8)) : Dx × List Nat × Int :=
  if id ≤ lastE d.all ∨ tagsB ts = false then (d, [], 2)
  else if (addsM most d.nm ts).2.2 = 0 then (⟨(addsM most d.nm ts).1, d.all ++ [⟨id, ts, (addsM most d.nm ts).2.1, true⟩], d.sl ++ (addsM most d.nm ts).2.1.map (fun n => (n, id))⟩, (addsM most d.nm ts).2.1, 0)
  else (d, [], (addsM most d.nm ts).2.2)
def Dx.drop (d : Dx) (id : Nat) : Dx × List Nat × Int :=
  match getE d.all id with
  | none => (d, [], 9)
  | some e => (⟨(relsM d.nm e.nums).1, d.all.map (deadE id), d.sl⟩, (relsM d.nm e.nums).2, 0)
def numB (n : Int) : Bool := decide (0 ≤ n) && decide (n < 65536)
def Dx.cut (d : Dx) (n i : Int) : Dx × Bool × Int :=
  if numB n = true then
    if 0 ≤ i then
      match (ofX d.sl n.toNat)[i.toNat]? with
      | none => (d, false, 9)
      | some id => if liveE d.all id = true then (d, false, 0) else (⟨d.nm, d.all, cutL n.toNat d.sl i.toNat⟩, true, 0)
    else (d, false, 9)
  else (d, false, 2)

theorem getE_some {A : List En} {id : Nat} {e : En} (h : getE A id = some e) : e ∈ A ∧ e.id = id ∧ e.live = true := by
  unfold getE at h
  have h1 := List.find?_some h
  have h2 := List.mem_of_find?_eq_some h
  simp only [Bool.and_eq_true, beq_iff_eq] at h1
  exact ⟨h2, h1.1, h1.2⟩
theorem getE_none {A : List En} {id : Nat} (h : getE A id = none) {e : En} (he : e ∈ A) (hi : e.id = id) : e.live = false := by
  unfold getE at h
  rw [List.find?_eq_none] at h
  have := h e he
  simp [hi] at this
  simpa using this
theorem ids_uniq : ∀ {A : List En}, A.Pairwise (fun x y => x.id < y.id) → ∀ {x y : En}, x ∈ A → y ∈ A → x.id = y.id → x = y
  | [], _, x, y, hx, _, _ => by cases hx
  | z :: r, h, x, y, hx, hy, he => by
    obtain ⟨h1, h2⟩ := List.pairwise_cons.1 h
    rcases List.mem_cons.1 hx with rfl | hx
    · rcases List.mem_cons.1 hy with rfl | hy
      · rfl
      · have := h1 y hy; omega
    · rcases List.mem_cons.1 hy with hy | hy
      · have := h1 x hx; rw [hy] at he; omega
      · exact ids_uniq h2 hx hy he
theorem getE_of {A : List En} (h : A.Pairwise (fun x y => x.id < y.id)) {e : En} (he : e ∈ A) (hl : e.live = true) : getE A e.id = some e := by
  cases hg : getE A e.id with
  | none => rw [getE_none hg he rfl] at hl; cases hl
  | some y =>
    obtain ⟨h1, h2, _⟩ := getE_some hg
    rw [ids_uniq h h1 he h2]
theorem liveE_iff {A : List En} {id : Nat} : liveE A id = true ↔ ∃ e ∈ A, e.id = id ∧ e.live = true := by
  unfold liveE
  constructor
  · intro h
    obtain ⟨e, he⟩ := Option.isSome_iff_exists.1 h
    exact ⟨e, (getE_some he).1, (getE_some he).2⟩
  · rintro ⟨e, he, hi, hl⟩
    cases hg : getE A id with
    | none => rw [getE_none hg he hi] at hl; cases hl
    | some y => rfl
theorem last_le {A : List En} (h : A.Pairwise (fun x y => x.id < y.id)) {e : En} (he : e ∈ A) : e.id ≤ lastE A := by
  unfold lastE
  cases hl : A.getLast? with
  | none => rw [List.getLast?_eq_none_iff] at hl; subst hl; cases he
  | some z =>
    obtain ⟨r, rfl⟩ := List.getLast?_eq_some_iff.1 hl
    simp only
    rcases List.mem_append.1 he with he | he
    · exact Nat.le_of_lt ((List.pairwise_append.1 h).2.2 e he z (by simp))
    · simp at he; subst he; exact Nat.le_refl _
theorem lastE_snoc (A : List En) (e : En) : lastE (A ++ [e]) = e.id := by unfold lastE; simp
theorem deadE_id (id : Nat) (e : En) : (deadE id e).id = e.id := by unfold deadE; split <;> rfl
theorem lastE_dead (A : List En) (id : Nat) : lastE (A.map (deadE id)) = lastE A := by
  unfold lastE
  rw [List.getLast?_map]
  cases A.getLast? with
  | none => rfl
  | some e => exact deadE_id id e
theorem liveE_snoc {A : List En} {e : En} (hl : e.live = true) (id : Nat) : liveE (A ++ [e]) id = (liveE A id || e.id == id) := by
  rw [Bool.eq_iff_iff, Bool.or_eq_true, liveE_iff, liveE_iff, beq_iff_eq]
  constructor
  · rintro ⟨x, hx, h1, h2⟩
    rcases List.mem_append.1 hx with hx | hx
    · exact .inl ⟨x, hx, h1, h2⟩
    · simp at hx; subst hx; exact .inr h1
  · rintro (⟨x, hx, h1, h2⟩ | h)
    · exact ⟨x, List.mem_append_left _ hx, h1, h2⟩
    · exact ⟨e, by simp, h, hl⟩
theorem liveE_dead (A : List En) (id k : Nat) : liveE (A.map (deadE id)) k = (liveE A k && !(k == id)) := by
  rw [Bool.eq_iff_iff, Bool.and_eq_true, liveE_iff, liveE_iff]
  constructor
  · rintro ⟨x, hx, h1, h2⟩
    obtain ⟨y, hy, rfl⟩ := List.mem_map.1 hx
    rw [deadE_id] at h1
    unfold deadE at h2
    split at h2
    · cases h2
    · rename_i hne
      exact ⟨⟨y, hy, h1, h2⟩, by simp; omega⟩
  · rintro ⟨⟨y, hy, h1, h2⟩, h3⟩
    have hne : ¬ y.id = id := by simp at h3; omega
    refine ⟨deadE id y, List.mem_map.2 ⟨y, hy, rfl⟩, (deadE_id id y).trans h1, ?_⟩
    unfold deadE
    rw [if_neg hne]
    exact h2
theorem ofX_cons (s : Nat × Nat) (r : List (Nat × Nat)) (n : Nat) : ofX (s :: r) n = if s.1 = n then s.2 :: ofX r n else ofX r n := by
  unfold ofX
  rw [List.filter_cons]
  by_cases h : s.1 = n
  · have : (s.1 == n) = true := by simpa using h
    rw [this, if_pos h]; rfl
  · have : (s.1 == n) = false := by simpa using h
    rw [this, if_neg h]; rfl
theorem ofX_app (S T : List (Nat × Nat)) (n : Nat) : ofX (S ++ T) n = ofX S n ++ ofX T n := by unfold ofX; rw [List.filter_append, List.map_append]
theorem ofX_mem {S : List (Nat × Nat)} {n k : Nat} : k ∈ ofX S n ↔ (n, k) ∈ S := by
  unfold ofX
  rw [List.mem_map]
  constructor
  · rintro ⟨s, hs, rfl⟩
    obtain ⟨h1, h2⟩ := List.mem_filter.1 hs
    rw [beq_iff_eq] at h2
    rw [← h2]
    exact h1
  · intro h
    exact ⟨(n, k), List.mem_filter.2 ⟨h, by simp⟩, rfl⟩
theorem ofX_new (ns : List Nat) (hn : ns.Nodup) (id m : Nat) : ofX (ns.map fun n => (n, id)) m = if m ∈ ns then [id] else [] := by
  induction ns with
  | nil => rfl
  | cons n r ih =>
    obtain ⟨h1, h2⟩ := List.nodup_cons.1 hn
    rw [List.map_cons, ofX_cons, ih h2]
    by_cases h : n = m
    · subst h
      simp only [if_pos, List.mem_cons_self]
      rw [if_neg h1]
    · rw [if_neg h]
      have : (m ∈ n :: r) ↔ m ∈ r := by rw [List.mem_cons]; exact ⟨fun hh => hh.resolve_left (fun e => h e.symm), .inr⟩
      simp only [this]
theorem cutL_of_same (n : Nat) : ∀ (S : List (Nat × Nat)) (i : Nat), ofX (cutL n S i) n = (ofX S n).eraseIdx i
  | [], i => by unfold cutL; simp [ofX]
  | s :: r, i => by
    unfold cutL
    by_cases h : s.1 = n
    · rw [if_pos h, ofX_cons s r, if_pos h]
      cases i with
      | zero => rfl
      | succ i =>
        show ofX (s :: cutL n r i) n = _
        rw [ofX_cons, if_pos h, cutL_of_same n r i]
        rfl
    · rw [if_neg h, ofX_cons, if_neg h, ofX_cons, if_neg h, cutL_of_same n r i]
theorem cutL_of_other {n m : Nat} (hm : m ≠ n) : ∀ (S : List (Nat × Nat)) (i : Nat), ofX (cutL n S i) m = ofX S m
  | [], i => rfl
  | s :: r, i => by
    unfold cutL
    by_cases h : s.1 = n
    · rw [if_pos h, ofX_cons s r, if_neg (by omega)]
      cases i with
      | zero => rfl
      | succ i =>
        show ofX (s :: cutL n r i) m = _
        rw [ofX_cons, if_neg (by omega), cutL_of_other hm r i]
    · rw [if_neg h, ofX_cons, ofX_cons, cutL_of_other hm r i]
theorem cutL_sub (n : Nat) : ∀ (S : List (Nat × Nat)) (i : Nat), (cutL n S i).Sublist S
  | [], i => List.Sublist.refl _
  | s :: r, i => by
    unfold cutL
    by_cases h : s.1 = n
    · rw [if_pos h]
      cases i with
      | zero => exact List.sublist_cons_self _ _
      | succ i => exact List.Sublist.cons_cons _ (cutL_sub n r i)
    · rw [if_neg h]
      exact List.Sublist.cons_cons _ (cutL_sub n r i)
/-- What is cut is one slot. -/
theorem cutL_count (p : Nat × Nat → Bool) (n : Nat) : ∀ (S : List (Nat × Nat)) (i k : Nat), (ofX S n)[i]? = some k → S.countP p = (cutL n S i).countP p + (if p (n, k) = true then 1 else 0)
  | [], i, k, h => by simp [ofX] at h
  | s :: r, i, k, h => by
    unfold cutL
    rw [ofX_cons] at h
    by_cases hs : s.1 = n
    · rw [if_pos hs] at h ⊢
      cases i with
      | zero =>
        simp only [List.getElem?_cons_zero, Option.some.injEq] at h
        have e : s = (n, k) := by rw [← hs, ← h]
        subst e
        exact List.countP_cons
      | succ i =>
        show _ = (s :: cutL n r i).countP p + _
        rw [List.countP_cons, List.countP_cons, cutL_count p n r i k (by simpa using h)]
        omega
    · rw [if_neg hs] at h ⊢
      rw [List.countP_cons, List.countP_cons, cutL_count p n r i k h]
      omega
theorem cutL_len {n : Nat} {S : List (Nat × Nat)} {i k : Nat} (h : (ofX S n)[i]? = some k) : S.length = (cutL n S i).length + 1 := by
  have := cutL_count (fun _ => true) n S i k h
  rw [List.countP_eq_length.2 (fun _ _ => rfl), List.countP_eq_length.2 (fun _ _ => rfl)] at this
  simpa using this
theorem cutL_filter (p : Nat × Nat → Bool) (n : Nat) : ∀ (S : List (Nat × Nat)) (i k : Nat), (ofX S n)[i]? = some k → p (n, k) = false → (cutL n S i).filter p = S.filter p
  | [], i, k, h, _ => by simp [ofX] at h
  | s :: r, i, k, h, hp => by
    unfold cutL
    rw [ofX_cons] at h
    by_cases hs : s.1 = n
    · rw [if_pos hs] at h ⊢
      cases i with
      | zero =>
        simp only [List.getElem?_cons_zero, Option.some.injEq] at h
        have e : s = (n, k) := by rw [← hs, ← h]
        subst e
        rw [List.filter_cons, hp]
        rfl
      | succ i =>
        show (s :: cutL n r i).filter p = _
        rw [List.filter_cons, List.filter_cons, cutL_filter p n r i k (by simpa using h) hp]
    · rw [if_neg hs] at h ⊢
      rw [List.filter_cons, List.filter_cons, cutL_filter p n r i k h hp]

/-- What holds of the document's index. -/
structure Iw (most R : Int) (d : Dx) : Prop where
  wf : Wf most R d.nm
  ids : d.all.Pairwise (fun x y => x.id < y.id)
  pos : ∀ e ∈ d.all, 0 < e.id
  len : ∀ e ∈ d.all, e.nums.length = e.tags.length ∧ e.nums.Nodup ∧ tagsB e.tags = true
  num : ∀ e ∈ d.all, e.live = true → ∀ (i n : Nat), e.nums[i]? = some n → ∃ t, e.tags[i]? = some t ∧ (nmAt d.nm n).1 = t
  refs : ∀ n, (nmAt d.nm n).2 = (d.all.countP (fun e => e.live && e.nums.contains n) : Int)
  sl1 : ∀ s ∈ d.sl, ∃ e ∈ d.all, e.id = s.2
  sl2 : ∀ e ∈ d.all, e.live = true → d.sl.filter (fun s => s.2 == e.id) = e.nums.map (fun n => (n, e.id))
  srt : d.sl.Pairwise (fun a b => a.2 ≤ b.2)
  nlt : ∀ s ∈ d.sl, (s.1 : Int) < most
theorem tagsB_is {ts : List (List UInt8)} (h : tagsB ts = true) : (∀ t ∈ ts, validB t = true) ∧ ts.Pairwise (· < ·) ∧ ts.length ≤ 16 ∧ ts.Nodup := by
  unfold tagsB at h
  rw [Bool.and_eq_true, Bool.and_eq_true, decide_eq_true_eq, decide_eq_true_eq, List.all_eq_true] at h
  exact ⟨h.1.1, h.1.2, h.2, h.1.2.imp fun h e => by subst e; exact List.lt_irrefl _ h⟩
theorem Iw.start (most : Int) (hm : 0 ≤ most) : Iw most 0 ⟨[], [], []⟩ :=
  ⟨Wf.nil most 0 hm (Int.le_refl _), List.Pairwise.nil, fun _ h => (by cases h), fun _ h => (by cases h), fun _ h => (by cases h), fun n => rfl, fun _ h => (by cases h), fun _ h => (by cases h), List.Pairwise.nil, fun _ h => (by cases h)⟩
section
variable {most R : Int} {d : Dx}
theorem Iw.mono (h : Iw most R d) {R' : Int} (hR : R ≤ R') : Iw most R' d := ⟨h.wf.mono hR, h.ids, h.pos, h.len, h.num, h.refs, h.sl1, h.sl2, h.srt, h.nlt⟩
theorem Iw.numLive (h : Iw most R d) {e : En} (he : e ∈ d.all) (hl : e.live = true) {n : Nat} (hn : n ∈ e.nums) : liveB d.nm n = true := by
  unfold liveB
  rw [h.refs n, decide_eq_true_eq]
  have : 0 < d.all.countP (fun e => e.live && e.nums.contains n) := List.countP_pos_iff.2 ⟨e, he, by simp [hl, hn]⟩
  omega
theorem Iw.add (h : Iw most R d) (hR : 0 ≤ R) (id : Nat) (ts : List (List UInt8)) : Iw most (R + 16) (d.add most id ts).1 := by
  unfold Dx.add
  by_cases h1 : id ≤ lastE d.all ∨ tagsB ts = false
  · rw [if_pos h1]; exact h.mono (by omega)
  · rw [if_neg h1]
    rw [not_or] at h1
    obtain ⟨h1, h2⟩ := h1
    have ht : tagsB ts = true := by simpa using h2
    obtain ⟨t1, t2, t3, t4⟩ := tagsB_is ht
    have hadd := adds_is h.wf hR t4 t1
    split
    · rename_i he
      rw [he] at hadd
      generalize (addsM most d.nm ts).2.1 = ns at *
      generalize (addsM most d.nm ts).1 = l1 at *
      have hlt : ∀ e ∈ d.all, e.id < id := fun e he => by have := last_le h.ids he; omega
      refine ⟨hadd.wf.mono (by omega), ?_, ?_, ?_, ?_, ?_, ?_, ?_, ?_, ?_⟩
      · refine List.pairwise_append.2 ⟨h.ids, List.pairwise_singleton _ _, fun x hx y hy => ?_⟩
        simp at hy; subst hy
        exact hlt x hx
      · intro e he
        rcases List.mem_append.1 he with he | he
        · exact h.pos e he
        · simp at he; subst he; show 0 < id; omega
      · intro e he
        rcases List.mem_append.1 he with he | he
        · exact h.len e he
        · simp at he; subst he; exact ⟨hadd.all rfl, hadd.nodup, ht⟩
      · intro e he hl i n hn
        rcases List.mem_append.1 he with he | he
        · obtain ⟨t, e1, e2⟩ := h.num e he hl i n hn
          exact ⟨t, e1, (hadd.name n (h.numLive he hl (List.mem_of_getElem? hn))).trans e2⟩
        · simp at he; subst he
          exact hadd.at_ i n hn
      · intro n
        rw [hadd.refs n, h.refs n, List.countP_append]
        have : ([⟨id, ts, ns, true⟩] : List En).countP (fun e => e.live && e.nums.contains n) = if n ∈ ns then 1 else 0 := by
          rw [List.countP_cons, List.countP_nil]
          simp
        rw [this]
        split <;> simp
      · intro s hs
        rcases List.mem_append.1 hs with hs | hs
        · obtain ⟨e, he, e2⟩ := h.sl1 s hs
          exact ⟨e, List.mem_append_left _ he, e2⟩
        · obtain ⟨n, _, rfl⟩ := List.mem_map.1 hs
          exact ⟨⟨id, ts, ns, true⟩, by simp, rfl⟩
      · intro e he hl
        rw [List.filter_append]
        rcases List.mem_append.1 he with he | he
        · rw [h.sl2 e he hl]
          have : (ns.map fun n => (n, id)).filter (fun s => s.2 == e.id) = [] := by
            rw [List.filter_eq_nil_iff]
            intro s hs
            obtain ⟨n, _, rfl⟩ := List.mem_map.1 hs
            have := hlt e he
            simp; omega
          rw [this, List.append_nil]
        · simp at he; subst he
          have e1 : d.sl.filter (fun s => s.2 == id) = [] := by
            rw [List.filter_eq_nil_iff]
            intro s hs
            obtain ⟨e, he, e2⟩ := h.sl1 s hs
            have := hlt e he
            simp; omega
          rw [e1, List.nil_append, List.filter_eq_self.2]
          intro s hs
          obtain ⟨n, _, rfl⟩ := List.mem_map.1 hs
          simp
      · refine List.pairwise_append.2 ⟨h.srt, ?_, fun a ha b hb => ?_⟩
        · rw [List.pairwise_map]
          exact List.pairwise_of_forall (fun _ _ => Nat.le_refl _)
        · obtain ⟨n, _, rfl⟩ := List.mem_map.1 hb
          obtain ⟨e, he, e2⟩ := h.sl1 a ha
          have := hlt e he
          show a.2 ≤ id
          omega
      · intro s hs
        rcases List.mem_append.1 hs with hs | hs
        · exact h.nlt s hs
        · obtain ⟨n, hn, rfl⟩ := List.mem_map.1 hs
          have h5 : liveB l1 n = true := by
            unfold liveB
            rw [hadd.refs n, if_pos hn, decide_eq_true_eq]
            have := (h.wf.refs n).1
            omega
          have := live_lt h5
          have := hadd.wf.size
          show (n : Int) < most
          omega
    · exact h.mono (by omega)
theorem Iw.rels (h : Iw most R d) {e : En} (he : e ∈ d.all) (hl : e.live = true) : (∀ m, nmAt (relsM d.nm e.nums).1 m = (if m ∈ e.nums then (if 1 < (nmAt d.nm m).2 then ((nmAt d.nm m).1, (nmAt d.nm m).2 - 1) else ([], 0)) else nmAt d.nm m)) ∧ (relsM d.nm e.nums).2 = e.nums.filter (fun n => decide (¬ 1 < (nmAt d.nm n).2)) :=
  rels_spec (h.len e he).2.1 (fun n hn => h.numLive he hl hn)
theorem count_dead : ∀ {A : List En}, A.Pairwise (fun x y => x.id < y.id) → ∀ {e : En}, e ∈ A → e.live = true → ∀ (n : Nat), A.countP (fun e => e.live && e.nums.contains n) = (A.map (deadE e.id)).countP (fun e => e.live && e.nums.contains n) + (if n ∈ e.nums then 1 else 0)
  | [], _, e, h, _, _ => by cases h
  | z :: r, hp, e, h, hl, n => by
    obtain ⟨h1, h2⟩ := List.pairwise_cons.1 hp
    rw [List.map_cons, List.countP_cons, List.countP_cons]
    rcases List.mem_cons.1 h with rfl | h
    · have e1 : r.map (deadE e.id) = r := by
        conv => rhs; rw [← List.map_id r]
        refine List.map_congr_left (fun x hx => ?_)
        unfold deadE
        rw [if_neg (by have := h1 x hx; omega)]
        rfl
      have e2 : (deadE e.id e).live = false := by unfold deadE; rw [if_pos rfl]
      rw [e1, e2, hl]
      simp
    · have hne : ¬ z.id = e.id := by have := h1 e h; omega
      have e2 : deadE e.id z = z := by unfold deadE; rw [if_neg hne]
      rw [e2, count_dead h2 h hl n]
      omega
theorem Iw.drop (h : Iw most R d) (id : Nat) : Iw most R (d.drop id).1 := by
  unfold Dx.drop
  cases hg : getE d.all id with
  | none => exact h
  | some e =>
    obtain ⟨he, hi, hl⟩ := getE_some hg
    obtain ⟨hr, _⟩ := h.rels he hl
    subst hi
    have hcd := count_dead h.ids he hl
    have hback : ∀ y ∈ d.all.map (deadE e.id), y.live = true → y ∈ d.all ∧ y.id ≠ e.id := by
      intro y hy hyl
      obtain ⟨z, hz, rfl⟩ := List.mem_map.1 hy
      unfold deadE at hyl ⊢
      split at hyl
      · cases hyl
      · rename_i hne
        rw [if_neg hne]
        exact ⟨hz, hne⟩
    refine ⟨rels_wf h.wf, ?_, ?_, ?_, ?_, ?_, ?_, ?_, h.srt, h.nlt⟩
    · rw [List.pairwise_map]
      exact h.ids.imp (fun hxy => by rw [deadE_id, deadE_id]; exact hxy)
    · intro y hy
      obtain ⟨z, hz, rfl⟩ := List.mem_map.1 hy
      rw [deadE_id]
      exact h.pos z hz
    · intro y hy
      obtain ⟨z, hz, rfl⟩ := List.mem_map.1 hy
      have := h.len z hz
      unfold deadE
      split
      · exact this
      · exact this
    · intro y hy hyl i n hn
      obtain ⟨hy2, hne⟩ := hback y hy hyl
      obtain ⟨t, t1, t2⟩ := h.num y hy2 hyl i n hn
      refine ⟨t, t1, ?_⟩
      show (nmAt (relsM d.nm e.nums).1 n).1 = t
      rw [hr n]
      by_cases hm : n ∈ e.nums
      · have h2 : 2 ≤ d.all.countP (fun e => e.live && e.nums.contains n) := by
          rw [hcd n, if_pos hm]
          have : 0 < (d.all.map (deadE e.id)).countP (fun e => e.live && e.nums.contains n) := List.countP_pos_iff.2 ⟨y, hy, by simp [hyl, List.mem_of_getElem? hn]⟩
          omega
        rw [if_pos hm, if_pos (by rw [h.refs n]; omega)]
        exact t2
      · rw [if_neg hm]; exact t2
    · intro n
      show (nmAt (relsM d.nm e.nums).1 n).2 = _
      have hc := hcd n
      have h0 := h.refs n
      rw [hr n]
      show _ = (((d.all.map (deadE e.id)).countP (fun e => e.live && e.nums.contains n) : Nat) : Int)
      by_cases hm : n ∈ e.nums
      · rw [if_pos hm] at hc ⊢
        split
        · show (nmAt d.nm n).2 - 1 = _; omega
        · show (0 : Int) = _; omega
      · rw [if_neg hm] at hc ⊢
        omega
    · intro s hs
      obtain ⟨y, hy, e2⟩ := h.sl1 s hs
      exact ⟨deadE e.id y, List.mem_map.2 ⟨y, hy, rfl⟩, (deadE_id _ _).trans e2⟩
    · intro y hy hyl
      exact h.sl2 y (hback y hy hyl).1 hyl
theorem Iw.cut (h : Iw most R d) (n i : Int) : Iw most R (d.cut n i).1 := by
  unfold Dx.cut
  split
  · split
    · cases hk : (ofX d.sl n.toNat)[i.toNat]? with
      | none => exact h
      | some k =>
        simp only
        split
        · exact h
        · rename_i hl
          refine ⟨h.wf, h.ids, h.pos, h.len, h.num, h.refs, fun s hs => h.sl1 s ((cutL_sub _ _ _).subset hs), fun e he hel => ?_, h.srt.sublist (cutL_sub _ _ _), fun s hs => h.nlt s ((cutL_sub _ _ _).subset hs)⟩
          show (cutL n.toNat d.sl i.toNat).filter _ = _
          rw [cutL_filter (fun s => s.2 == e.id) _ _ _ _ hk ?_]
          · exact h.sl2 e he hel
          · show (k == e.id) = false
            rw [beq_eq_false_iff_ne]
            intro e2
            exact hl (liveE_iff.2 ⟨e, he, e2.symm, hel⟩)
    · exact h
  · exact h
end
end Go.Proofs.Ythngkimncdpekaa
