/- Names with numbers: what is free, how many there are, and what calls keep. -/
/- Names with numbers and references, on plain lists: the table of the document, and the chains of the program. -/
namespace Go.Proofs.YtfpkeinknhijaaaGreat

abbrev Nms := List (List UInt8 × Int)
def nmAt (l : Nms) (n : Nat) : List UInt8 × Int := l.getD n ([], 0)
def liveB (l : Nms) (n : Nat) : Bool := decide (0 < (nmAt l n).2)
def liveX (x : List UInt8 × Int) : Bool := decide (0 < x.2)
def findN (l : Nms) (s : List UInt8) : Option Nat := l.findIdx? (fun x => liveX x && x.1 == s)
def liveN (l : Nms) : Nat := (l.filter liveX).length
def lowest (l : Nms) : Nat := l.findIdx (fun x => !liveX x)
def freeL (l : Nms) : List Nat := (List.range l.length).filter (fun n => !liveB l n)
def validB (s : List UInt8) : Bool := decide (1 ≤ s.length) && decide (s.length ≤ 64)
def idxI (o : Option Nat) : Int := match o with | some n => n | none => -1
def putL {α : Type} (l : List α) (n : Nat) (x : α) : List α := if n < l.length then l.set n x else l ++ [x]
def addM (most : Int) (l : Nms) (s : List UInt8) : Nms × Int × Int :=
  if validB s = true then
    match findN l s with
    | some n => (l.set n (s, (nmAt l n).2 + 1), n, 0)
    | none => if most ≤ liveN l then (l, 0, 7) else (putL l (lowest l) (s, 1), lowest l, 0)
  else (l, 0, 2)
def hasM (l : Nms) (n : Int) : Bool := decide (0 ≤ n) && liveB l n.toNat
def relM (l : Nms) (n : Int) : Nms × Bool × Int :=
  if hasM l n = true then
    (if 1 < (nmAt l n.toNat).2 then (l.set n.toNat ((nmAt l n.toNat).1, (nmAt l n.toNat).2 - 1), false, 0) else (l.set n.toNat ([], 0), true, 0))
  else (l, false, 9)
def findM (l : Nms) (s : List UInt8) : Int × Int :=
  if validB s = true then (match findN l s with | some n => ((n : Int), 0) | none => (0, 9)) else (0, 2)

theorem nmAt_of {l : Nms} {n : Nat} {x : List UInt8 × Int} (h : l[n]? = some x) : nmAt l n = x := by
  unfold nmAt; rw [List.getD_eq_getElem?_getD, h]; rfl
theorem nmAt_get {l : Nms} {n : Nat} (h : n < l.length) : l[n]? = some (nmAt l n) := by
  unfold nmAt; rw [List.getD_eq_getElem?_getD, List.getElem?_eq_getElem h]; rfl
theorem nmAt_out {l : Nms} {n : Nat} (h : l.length ≤ n) : nmAt l n = ([], 0) := by
  unfold nmAt; rw [List.getD_eq_getElem?_getD, List.getElem?_eq_none h]; rfl
theorem live_lt {l : Nms} {n : Nat} (h : liveB l n = true) : n < l.length := by
  rcases Nat.lt_or_ge n l.length with h1 | h1
  · exact h1
  · unfold liveB at h; rw [nmAt_out h1] at h; simp at h
theorem nmAt_set {l : Nms} {n m : Nat} {x : List UInt8 × Int} (h : n < l.length) : nmAt (l.set n x) m = if m = n then x else nmAt l m := by
  unfold nmAt
  rw [List.getD_eq_getElem?_getD, List.getElem?_set]
  by_cases e : m = n
  · subst e; rw [if_pos rfl, if_pos h, if_pos rfl]; rfl
  · rw [if_neg (fun h => e h.symm), if_neg e, List.getD_eq_getElem?_getD]
theorem nmAt_put {l : Nms} {n m : Nat} {x : List UInt8 × Int} (h : n ≤ l.length) : nmAt (putL l n x) m = if m = n then x else nmAt l m := by
  unfold putL
  by_cases hn : n < l.length
  · rw [if_pos hn]; exact nmAt_set hn
  · rw [if_neg hn]
    obtain rfl : n = l.length := by omega
    unfold nmAt
    rw [List.getD_eq_getElem?_getD, List.getD_eq_getElem?_getD]
    by_cases e : m = l.length
    · subst e; rw [if_pos rfl]; simp
    · rw [if_neg e]
      rcases Nat.lt_or_ge m l.length with h1 | h1
      · rw [List.getElem?_append_left h1]
      · rw [List.getElem?_append_right (by omega), List.getElem?_eq_none (by simp; omega), List.getElem?_eq_none h1]
theorem putL_len {α : Type} (l : List α) (n : Nat) (x : α) (h : n ≤ l.length) : (putL l n x).length = max l.length (n + 1) := by
  unfold putL
  split
  · rw [List.length_set]; omega
  · rw [List.length_append]; simp; omega
theorem lowest_le (l : Nms) : lowest l ≤ l.length := List.findIdx_le_length
theorem lowest_dead (l : Nms) : liveB l (lowest l) = false := by
  unfold liveB
  rcases Nat.lt_or_ge (lowest l) l.length with h | h
  · have := List.findIdx_getElem (w := h) (xs := l) (p := fun x => !liveX x)
    rw [nmAt_of (List.getElem?_eq_getElem h)]
    have e : (!liveX l[lowest l]) = true := this
    unfold liveX at e
    simpa using e
  · rw [nmAt_out h]; rfl
theorem lowest_min (l : Nms) {m : Nat} (h : m < lowest l) : liveB l m = true := by
  have hl : m < l.length := Nat.lt_of_lt_of_le h (lowest_le l)
  have := List.not_of_lt_findIdx (xs := l) (p := fun x => !liveX x) h
  unfold liveB
  rw [nmAt_of (List.getElem?_eq_getElem hl)]
  simpa [liveX] using this
/-- Live names are different. -/
def Distinct (l : Nms) : Prop := ∀ i j, liveB l i = true → liveB l j = true → (nmAt l i).1 = (nmAt l j).1 → i = j
theorem findN_some {l : Nms} {s : List UInt8} {n : Nat} (h : findN l s = some n) : liveB l n = true ∧ (nmAt l n).1 = s := by
  unfold findN at h
  rw [List.findIdx?_eq_some_iff_getElem] at h
  obtain ⟨hl, hp, _⟩ := h
  have e := nmAt_of (List.getElem?_eq_getElem hl)
  unfold liveB
  rw [e]
  simp only [liveX, Bool.and_eq_true, beq_iff_eq] at hp
  exact hp
theorem findN_none {l : Nms} {s : List UInt8} (h : findN l s = none) (n : Nat) (hn : liveB l n = true) : (nmAt l n).1 ≠ s := by
  unfold findN at h
  rw [List.findIdx?_eq_none_iff] at h
  intro e
  have hl := live_lt hn
  have := h l[n] (List.getElem_mem hl)
  have e2 := nmAt_of (List.getElem?_eq_getElem hl)
  unfold liveB at hn
  rw [e2] at hn e
  simp only [liveX, Bool.and_eq_false_iff, beq_eq_false_iff_ne] at this
  rcases this with h1 | h1
  · rw [hn] at h1; cases h1
  · exact h1 e
theorem findN_of {l : Nms} (hd : Distinct l) {s : List UInt8} {n : Nat} (hn : liveB l n = true) (hs : (nmAt l n).1 = s) : findN l s = some n := by
  cases h : findN l s with
  | none => exact absurd hs (findN_none h n hn)
  | some m =>
    have := findN_some h
    rw [hd m n this.1 hn (this.2.trans hs.symm)]

/-! ### Chains -/
theorem getD_set_self {α : Type} {l : List α} {i : Nat} (h : i < l.length) (v d : α) : (l.set i v).getD i d = v := by
  rw [List.getD_eq_getElem?_getD, List.getElem?_set_self h]; rfl
theorem getD_set_ne {α : Type} {l : List α} {i j : Nat} (h : i ≠ j) (v d : α) : (l.set i v).getD j d = l.getD j d := by
  rw [List.getD_eq_getElem?_getD, List.getElem?_set_ne h, ← List.getD_eq_getElem?_getD]
theorem getD_append_left {α : Type} {l : List α} {i : Nat} (h : i < l.length) (r : List α) (d : α) : (l ++ r).getD i d = l.getD i d := by
  rw [List.getD_eq_getElem?_getD, List.getElem?_append_left h, ← List.getD_eq_getElem?_getD]
def chainOk (nx : List Int) : Int → List Nat → Prop
  | h, [] => h = -1
  | h, n :: c => h = (n : Int) ∧ n < nx.length ∧ chainOk nx (nx.getD n 0) c
theorem chainOk_set {nx : List Int} {m : Nat} {v : Int} : ∀ {c : List Nat} {h : Int}, m ∉ c → chainOk nx h c → chainOk (nx.set m v) h c
  | [], _, _, h => h
  | n :: c, _, hm, h => by
    obtain ⟨h1, h2, h3⟩ := h
    have hne : m ≠ n := fun e => hm (by rw [e]; exact List.mem_cons_self)
    refine ⟨h1, by rw [List.length_set]; exact h2, ?_⟩
    rw [getD_set_ne hne]
    exact chainOk_set (fun hh => hm (List.mem_cons_of_mem _ hh)) h3
theorem chainOk_append {nx : List Int} {y : Int} : ∀ {c : List Nat} {h : Int}, chainOk nx h c → chainOk (nx ++ [y]) h c
  | [], _, h => h
  | n :: c, _, h => by
    obtain ⟨h1, h2, h3⟩ := h
    refine ⟨h1, by rw [List.length_append]; omega, ?_⟩
    rw [getD_append_left h2]
    exact chainOk_append h3
theorem chainOk_lt {nx : List Int} : ∀ {c : List Nat} {h : Int}, chainOk nx h c → ∀ n ∈ c, n < nx.length
  | [], _, _, _, hn => by cases hn
  | n :: c, _, h, m, hm => by
    rcases List.mem_cons.1 hm with rfl | hm
    · exact h.2.1
    · exact chainOk_lt h.2.2 m hm
/-- What follows of a chain behind a part of it. -/
theorem chainOk_split {nx : List Int} : ∀ {c1 : List Nat} {p : Nat} {c2 : List Nat} {h : Int}, chainOk nx h (c1 ++ p :: c2) → chainOk nx (nx.getD p 0) c2 ∧ p < nx.length
  | [], _, _, _, h => ⟨h.2.2, h.2.1⟩
  | _ :: c1, _, _, _, h => chainOk_split (c1 := c1) h.2.2
/-- A link behind p is turned. -/
theorem chainOk_link {nx : List Int} {v : Int} : ∀ {c1 : List Nat} {p : Nat} {c2 c3 : List Nat} {h : Int}, chainOk nx h (c1 ++ p :: c2) → (c1 ++ p :: c2).Nodup → p ∉ c3 → chainOk nx v c3 → chainOk (nx.set p v) h (c1 ++ p :: c3)
  | [], p, c2, c3, h, hc, _, hp, h3 => by
    refine ⟨hc.1, by rw [List.length_set]; exact hc.2.1, ?_⟩
    rw [getD_set_self hc.2.1]
    exact chainOk_set hp h3
  | n :: c1, p, c2, c3, h, hc, hn, hp, h3 => by
    rw [List.cons_append, List.nodup_cons] at hn
    have hne : p ≠ n := fun e => hn.1 (by rw [e]; simp)
    refine ⟨hc.1, by rw [List.length_set]; exact hc.2.1, ?_⟩
    rw [getD_set_ne hne]
    exact chainOk_link hc.2.2 hn.2 hp h3

/-- The chains of a table hold, of the live names of which P holds, each in its own chain. -/
structure Chains (hs : List UInt8 → Nat) (hd nx : List Int) (l : Nms) (ch : Nat → List Nat) (P : Nat → Prop) : Prop where
  pos : 0 < hd.length
  len : nx.length = l.length
  ok : ∀ i, i < hd.length → chainOk nx (hd.getD i 0) (ch i)
  nodup : ∀ i, i < hd.length → (ch i).Nodup
  mem : ∀ i, i < hd.length → ∀ n, n ∈ ch i ↔ (P n ∧ liveB l n = true ∧ hs (nmAt l n).1 % hd.length = i)
section
variable {hs : List UInt8 → Nat} {hd nx : List Int} {l : Nms} {ch : Nat → List Nat} {P : Nat → Prop}
theorem Chains.congr (h : Chains hs hd nx l ch P) {Q : Nat → Prop} (e : ∀ n, liveB l n = true → (P n ↔ Q n)) : Chains hs hd nx l ch Q :=
  ⟨h.pos, h.len, h.ok, h.nodup, fun i hi n => by
    rw [h.mem i hi n]
    constructor
    · rintro ⟨h1, h2, h3⟩; exact ⟨(e n h2).1 h1, h2, h3⟩
    · rintro ⟨h1, h2, h3⟩; exact ⟨(e n h2).2 h1, h2, h3⟩⟩
/-- A name is put ahead of its chain. -/
theorem Chains.push (h : Chains hs hd nx l ch P) {n : Nat} (hn : liveB l n = true) (hp : ¬ P n) {i : Nat} (hi : hs (nmAt l n).1 % hd.length = i) :
    Chains hs (hd.set i n) (nx.set n (hd.getD i 0)) l (fun j => if j = i then n :: ch i else ch j) (fun m => P m ∨ m = n) := by
  have hlt : i < hd.length := by rw [← hi]; exact Nat.mod_lt _ h.pos
  have hnl : n < nx.length := by rw [h.len]; exact live_lt hn
  have hnot : ∀ j, j < hd.length → n ∉ ch j := fun j hj hm => hp ((h.mem j hj n).1 hm).1
  refine ⟨by rw [List.length_set]; exact h.pos, by rw [List.length_set]; exact h.len, fun j hj => ?_, fun j hj => ?_, fun j hj m => ?_⟩
  · rw [List.length_set] at hj
    by_cases e : j = i
    · subst e
      rw [if_pos rfl, getD_set_self hj]
      refine ⟨rfl, by rw [List.length_set]; exact hnl, ?_⟩
      rw [getD_set_self hnl]
      exact chainOk_set (hnot _ hj) (h.ok _ hj)
    · rw [if_neg e, getD_set_ne (fun e2 => e e2.symm)]
      exact chainOk_set (hnot _ hj) (h.ok _ hj)
  · rw [List.length_set] at hj
    by_cases e : j = i
    · subst e
      simp only [if_pos]
      exact List.nodup_cons.2 ⟨hnot _ hj, h.nodup _ hj⟩
    · simp only [if_neg e]
      exact h.nodup _ hj
  · rw [List.length_set] at hj ⊢
    by_cases e : j = i
    · subst e
      simp only [if_pos]
      rw [List.mem_cons, h.mem _ hj]
      constructor
      · rintro (rfl | ⟨h1, h2, h3⟩)
        · exact ⟨.inr rfl, hn, hi⟩
        · exact ⟨.inl h1, h2, h3⟩
      · rintro ⟨h1 | rfl, h2, h3⟩
        · exact .inr ⟨h1, h2, h3⟩
        · exact .inl rfl
    · simp only [if_neg e]
      rw [h.mem _ hj]
      constructor
      · rintro ⟨h1, h2, h3⟩; exact ⟨.inl h1, h2, h3⟩
      · rintro ⟨h1 | rfl, h2, h3⟩
        · exact ⟨h1, h2, h3⟩
        · exact absurd (h3.symm.trans hi) e
/-- New heads hold nothing. -/
theorem Chains.fresh (hs : List UInt8 → Nat) {H : Nat} (hH : 0 < H) {nx : List Int} {l : Nms} (hl : nx.length = l.length) : Chains hs (List.replicate H (-1)) nx l (fun _ => []) (fun _ => False) := by
  refine ⟨by simpa using hH, hl, fun i hi => ?_, fun _ _ => List.nodup_nil, fun i _ n => by simp⟩
  rw [List.length_replicate] at hi
  unfold chainOk
  rw [List.getD_eq_getElem?_getD, List.getElem?_replicate, if_pos hi]
  rfl
/-- Where names are as live as they were, and have the texts that they had. -/
theorem Chains.same (h : Chains hs hd nx l ch P) {l' : Nms} (hl : l'.length = l.length) (hv : ∀ n, liveB l' n = liveB l n) (ht : ∀ n, liveB l n = true → (nmAt l' n).1 = (nmAt l n).1) : Chains hs hd nx l' ch P :=
  ⟨h.pos, h.len.trans hl.symm, h.ok, h.nodup, fun i hi n => by
    rw [h.mem i hi n, hv n]
    constructor
    · rintro ⟨h1, h2, h3⟩; exact ⟨h1, h2, by rw [ht n h2]; exact h3⟩
    · rintro ⟨h1, h2, h3⟩; exact ⟨h1, h2, by rw [ht n h2] at h3; exact h3⟩⟩
/-- A new name, ahead of being put into its chain. -/
theorem Chains.put (h : Chains hs hd nx l ch (fun _ => True)) {n : Nat} (hn : n ≤ l.length) (hd0 : liveB l n = false) (x : List UInt8 × Int) (y : Int) : Chains hs hd (putL nx n y) (putL l n x) ch (fun m => m ≠ n) := by
  have hnot : ∀ j, j < hd.length → n ∉ ch j := fun j hj hm => by
    have := ((h.mem j hj n).1 hm).2.1
    rw [hd0] at this; cases this
  refine ⟨h.pos, ?_, fun i hi => ?_, h.nodup, fun i hi m => ?_⟩
  · rw [putL_len _ _ _ hn, putL_len _ _ _ (by rw [h.len]; exact hn), h.len]
  · unfold putL
    split
    · exact chainOk_set (hnot i hi) (h.ok i hi)
    · exact chainOk_append (h.ok i hi)
  · rw [h.mem i hi m]
    by_cases e : m = n
    · subst e
      constructor
      · rintro ⟨_, h2, _⟩; rw [hd0] at h2; cases h2
      · rintro ⟨h1, _, _⟩; exact absurd rfl h1
    · have e2 : liveB (putL l n x) m = liveB l m := by unfold liveB; rw [nmAt_put hn, if_neg e]
      rw [e2, nmAt_put hn, if_neg e]
      constructor
      · rintro ⟨_, h2, h3⟩; exact ⟨e, h2, h3⟩
      · rintro ⟨_, h2, h3⟩; exact ⟨trivial, h2, h3⟩
/-- The place of a name in its chain. -/
theorem Chains.place (h : Chains hs hd nx l ch (fun _ => True)) {n : Nat} (hn : liveB l n = true) : ∃ c1 c2, ch (hs (nmAt l n).1 % hd.length) = c1 ++ n :: c2 :=
  List.append_of_mem ((h.mem _ (Nat.mod_lt _ h.pos) n).2 ⟨trivial, hn, rfl⟩)
/-- A name is taken out of its chain: hd', nx' are what they were but for the one link. -/
theorem Chains.out (h : Chains hs hd nx l ch (fun _ => True)) {n : Nat} (hn : liveB l n = true) {c1 c2 : List Nat} (hc : ch (hs (nmAt l n).1 % hd.length) = c1 ++ n :: c2) {hd' nx' : List Int}
    (hlk : (c1 = [] ∧ hd' = hd.set (hs (nmAt l n).1 % hd.length) (nx.getD n 0) ∧ nx' = nx) ∨ ∃ c0 p, c1 = c0 ++ [p] ∧ hd' = hd ∧ nx' = nx.set p (nx.getD n 0)) (z : Int) :
    Chains hs hd' (nx'.set n z) (l.set n ([], 0)) (fun j => if j = hs (nmAt l n).1 % hd.length then c1 ++ c2 else ch j) (fun _ => True) := by
  have hnl := live_lt hn
  have hlt : hs (nmAt l n).1 % hd.length < hd.length := Nat.mod_lt _ h.pos
  obtain ⟨i, hi⟩ : ∃ i, hs (nmAt l n).1 % hd.length = i := ⟨_, rfl⟩
  rw [hi] at hc hlk hlt ⊢
  have hok := h.ok i hlt
  have hnd := h.nodup i hlt
  rw [hc] at hok hnd
  have hs2 := chainOk_split hok
  have hn12 : n ∉ c1 ++ c2 := by
    rw [List.nodup_append] at hnd
    obtain ⟨_, hb, hcx⟩ := hnd
    rw [List.nodup_cons] at hb
    intro hm
    rcases List.mem_append.1 hm with hm | hm
    · exact hcx n hm n (by simp) rfl
    · exact hb.1 hm
  have hother : ∀ j, j < hd.length → j ≠ i → ∀ m, m ∈ c1 ++ n :: c2 → m ∉ ch j := fun j hj hne m hm hm2 => by
    rw [← hc] at hm
    have a1 := ((h.mem i hlt m).1 hm).2.2
    have a2 := ((h.mem j hj m).1 hm2).2.2
    exact hne (a2.symm.trans a1)
  have hlen' : hd'.length = hd.length ∧ nx'.length = nx.length := by
    rcases hlk with ⟨_, rfl, rfl⟩ | ⟨_, _, _, rfl, rfl⟩ <;> simp
  refine ⟨by rw [hlen'.1]; exact h.pos, by simp [hlen'.2, h.len], fun j hj => ?_, fun j hj => ?_, fun j hj m => ?_⟩
  · rw [hlen'.1] at hj
    by_cases e : j = i
    · subst e
      simp only [if_pos]
      rcases hlk with ⟨rfl, rfl, rfl⟩ | ⟨c0, p, rfl, rfl, rfl⟩
      · rw [getD_set_self hj]
        exact chainOk_set (by simpa using hn12) hs2.1
      · refine chainOk_set hn12 ?_
        rw [List.append_assoc] at hok hnd ⊢
        rw [List.singleton_append] at hok hnd ⊢
        refine chainOk_link hok hnd ?_ hs2.1
        rw [List.nodup_append] at hnd
        have := hnd.2.1
        rw [List.nodup_cons] at this
        exact fun hh => this.1 (List.mem_cons_of_mem _ hh)
    · simp only [if_neg e]
      rcases hlk with ⟨rfl, rfl, rfl⟩ | ⟨c0, p, rfl, rfl, rfl⟩
      · rw [getD_set_ne (fun e2 => e e2.symm)]
        exact chainOk_set (hother j hj e n (by simp)) (h.ok j hj)
      · exact chainOk_set (hother j hj e n (by simp)) (chainOk_set (hother j hj e p (by simp)) (h.ok j hj))
  · rw [hlen'.1] at hj
    by_cases e : j = i
    · subst e
      simp only [if_pos]
      refine List.Nodup.sublist ?_ hnd
      exact List.Sublist.append (List.Sublist.refl _) (List.sublist_cons_self _ _)
    · simp only [if_neg e]; exact h.nodup j hj
  · rw [hlen'.1] at hj ⊢
    by_cases e : m = n
    · subst e
      have hdead : liveB (l.set m ([], 0)) m = false := by unfold liveB; rw [nmAt_set hnl, if_pos rfl]; rfl
      rw [hdead]
      constructor
      · intro hm
        by_cases ej : j = i
        · subst ej
          simp only [if_pos] at hm
          exact absurd hm hn12
        · simp only [if_neg ej] at hm
          exact absurd hm (hother j hj ej m (by simp))
      · rintro ⟨_, h2, _⟩; cases h2
    · have e2 : liveB (l.set n ([], 0)) m = liveB l m := by unfold liveB; rw [nmAt_set hnl, if_neg e]
      rw [e2, nmAt_set hnl, if_neg e]
      by_cases ej : j = i
      · subst ej
        simp only [if_pos]
        rw [← h.mem j hj m, hc]
        simp only [List.mem_append, List.mem_cons]
        constructor
        · rintro (h1 | h1)
          · exact .inl h1
          · exact .inr (.inr h1)
        · rintro (h1 | h1 | h1)
          · exact .inl h1
          · exact absurd h1 e
          · exact .inr h1
      · simp only [if_neg ej]
        exact h.mem j hj m
/-- What a walk along a chain comes to. -/
def chFind (l : Nms) (s : List UInt8) : List Nat → Int
  | [] => -1
  | n :: c => if (nmAt l n).1 = s then n else chFind l s c
theorem chFind_is (h : Chains hs hd nx l ch (fun _ => True)) (hdist : Distinct l) (s : List UInt8) : chFind l s (ch (hs s % hd.length)) = idxI (findN l s) := by
  have hlt : hs s % hd.length < hd.length := Nat.mod_lt _ h.pos
  have key : ∀ c : List Nat, (∀ n ∈ c, liveB l n = true) → (chFind l s c = -1 ∧ ∀ n ∈ c, (nmAt l n).1 ≠ s) ∨ ∃ n, liveB l n = true ∧ (nmAt l n).1 = s ∧ chFind l s c = n := by
    intro c
    induction c with
    | nil => intro _; exact .inl ⟨rfl, fun n hn => by cases hn⟩
    | cons n c ih =>
      intro hc
      unfold chFind
      by_cases e : (nmAt l n).1 = s
      · rw [if_pos e]; exact .inr ⟨n, hc n (by simp), e, rfl⟩
      · rw [if_neg e]
        rcases ih (fun m hm => hc m (by simp [hm])) with ⟨h1, h2⟩ | h1
        · refine .inl ⟨h1, fun m hm => ?_⟩
          rcases List.mem_cons.1 hm with rfl | hm
          · exact e
          · exact h2 m hm
        · exact .inr h1
  rcases key _ (fun n hn => ((h.mem _ hlt n).1 hn).2.1) with ⟨h1, h2⟩ | ⟨n, h1, h2, h3⟩
  · rw [h1]
    cases hf : findN l s with
    | none => rfl
    | some n =>
      obtain ⟨h3, h4⟩ := findN_some hf
      exact absurd h4 (h2 n ((h.mem _ hlt n).2 ⟨trivial, h3, by rw [h4]⟩))
  · rw [h3, findN_of hdist h1 h2]
    rfl
end
end Go.Proofs.YtfpkeinknhijaaaGreat
namespace Go.Proofs.YtfpkeinknhijaaaGreat
set_option linter.unusedVariables false

theorem range_split {n m : Nat} (h : n < m) : List.range m = List.range n ++ n :: List.range' (n + 1) (m - n - 1) := by
  rw [List.range_eq_range', List.range_eq_range']
  have e : m = n + (1 + (m - n - 1)) := by omega
  rw [show List.range' 0 m = List.range' 0 (n + (1 + (m - n - 1))) by rw [← e]]
  rw [← List.range'_append_1, ← List.range'_append_1, Nat.zero_add]
  rfl
def freeBelow (l : Nms) (n : Nat) : List Nat := (List.range n).filter (fun m => !liveB l m)
def freeAbove (l : Nms) (n : Nat) : List Nat := (List.range' (n + 1) (l.length - n - 1)).filter (fun m => !liveB l m)
theorem freeL_live {l : Nms} {n : Nat} (h : n < l.length) (hv : liveB l n = true) : freeL l = freeBelow l n ++ freeAbove l n := by
  unfold freeL freeBelow freeAbove
  rw [range_split h, List.filter_append, List.filter_cons, hv]
  rfl
theorem freeL_dead {l : Nms} {n : Nat} (h : n < l.length) (hv : liveB l n = false) : freeL l = freeBelow l n ++ n :: freeAbove l n := by
  unfold freeL freeBelow freeAbove
  rw [range_split h, List.filter_append, List.filter_cons, hv]
  rfl
theorem liveB_set {l : Nms} {n m : Nat} {x : List UInt8 × Int} (h : n < l.length) : liveB (l.set n x) m = if m = n then liveX x else liveB l m := by
  unfold liveB
  rw [nmAt_set h]
  split
  · rfl
  · rfl
theorem freeBelow_set {l : Nms} {n : Nat} (x : List UInt8 × Int) (h : n < l.length) : freeBelow (l.set n x) n = freeBelow l n := by
  unfold freeBelow
  apply List.filter_congr
  intro m hm
  rw [List.mem_range] at hm
  rw [liveB_set h, if_neg (by omega)]
theorem freeAbove_set {l : Nms} {n : Nat} (x : List UInt8 × Int) (h : n < l.length) : freeAbove (l.set n x) n = freeAbove l n := by
  unfold freeAbove
  rw [List.length_set]
  apply List.filter_congr
  intro m hm
  rw [List.mem_range'_1] at hm
  rw [liveB_set h, if_neg (by omega)]
theorem freeBelow_lowest (l : Nms) : freeBelow l (lowest l) = [] := by
  unfold freeBelow
  rw [List.filter_eq_nil_iff]
  intro m hm
  rw [List.mem_range] at hm
  rw [lowest_min l hm]
  decide
/-- A number that is free is taken: the lowest one, the first of those that are free. -/
theorem freeL_take {l : Nms} (h : lowest l < l.length) (x : List UInt8 × Int) (hx : liveX x = true) : freeL l = lowest l :: freeL (l.set (lowest l) x) := by
  rw [freeL_dead h (lowest_dead l), freeBelow_lowest, freeL_live (l := l.set (lowest l) x) (n := lowest l) (by rw [List.length_set]; exact h) (by rw [liveB_set h, if_pos rfl, hx]),
    freeBelow_set x h, freeBelow_lowest, freeAbove_set x h]
  rfl
theorem freeL_none {l : Nms} (h : lowest l = l.length) : freeL l = [] := by
  have := freeBelow_lowest l
  rw [h] at this
  exact this
theorem freeL_snoc {l : Nms} (h : lowest l = l.length) (x : List UInt8 × Int) (hx : liveX x = true) : freeL (l ++ [x]) = [] := by
  unfold freeL
  rw [List.filter_eq_nil_iff]
  intro m hm
  rw [List.mem_range, List.length_append] at hm
  simp at hm
  have e : liveB (l ++ [x]) m = true := by
    by_cases e : m < l.length
    · unfold liveB nmAt
      rw [getD_append_left e]
      have := lowest_min l (m := m) (by rw [h]; exact e)
      unfold liveB nmAt at this
      exact this
    · obtain rfl : m = l.length := by omega
      unfold liveB nmAt
      rw [List.getD_eq_getElem?_getD]
      unfold liveX at hx
      simpa using hx
  rw [e]
  decide
/-- A number becomes free: it is put into its place. -/
theorem freeL_give {l : Nms} {n : Nat} (hv : liveB l n = true) : freeL (l.set n ([], 0)) = freeBelow l n ++ n :: freeAbove l n := by
  have h := live_lt hv
  rw [freeL_dead (l := l.set n ([], 0)) (n := n) (by rw [List.length_set]; exact h) (by rw [liveB_set h, if_pos rfl]; rfl), freeBelow_set _ h, freeAbove_set _ h]
theorem freeBelow_lt {l : Nms} {n m : Nat} (h : m ∈ freeBelow l n) : m < n := by
  unfold freeBelow at h
  have := (List.mem_filter.1 h).1
  rwa [List.mem_range] at this
theorem freeAbove_gt {l : Nms} {n m : Nat} (h : m ∈ freeAbove l n) : n < m := by
  unfold freeAbove at h
  have := (List.mem_filter.1 h).1
  rw [List.mem_range'_1] at this
  omega
theorem freeL_sorted (l : Nms) : (freeL l).Pairwise (· < ·) := List.Pairwise.filter _ List.pairwise_lt_range
theorem freeL_lt {l : Nms} {n : Nat} (h : n ∈ freeL l) : n < l.length := by
  unfold freeL at h
  have := (List.mem_filter.1 h).1
  rwa [List.mem_range] at this
theorem freeL_len (l : Nms) : (freeL l).length ≤ l.length := by
  unfold freeL
  have := List.length_filter_le (fun n => !liveB l n) (List.range l.length)
  rwa [List.length_range] at this

/-! ### How many -/
theorem liveN_append (l r : Nms) : liveN (l ++ r) = liveN l + liveN r := by
  unfold liveN
  rw [List.filter_append, List.length_append]
theorem split_at {l : Nms} {n : Nat} (h : n < l.length) : l = l.take n ++ nmAt l n :: l.drop (n + 1) := by
  rw [nmAt_of (List.getElem?_eq_getElem h), ← List.drop_eq_getElem_cons h, List.take_append_drop]
theorem set_at {l : Nms} {n : Nat} (h : n < l.length) (x : List UInt8 × Int) : l.set n x = l.take n ++ x :: l.drop (n + 1) := by
  rw [List.set_eq_take_append_cons_drop, if_pos h]
theorem liveN_one (x : List UInt8 × Int) : liveN [x] = if liveX x = true then 1 else 0 := by
  unfold liveN
  rw [List.filter_cons]
  split <;> rfl
theorem liveN_set {l : Nms} {n : Nat} (h : n < l.length) (x : List UInt8 × Int) : liveN (l.set n x) + (if liveB l n = true then 1 else 0) = liveN l + (if liveX x = true then 1 else 0) := by
  have e1 : liveN l = liveN (l.take n) + (liveN [nmAt l n] + liveN (l.drop (n + 1))) := by
    conv => lhs; rw [split_at h]
    rw [liveN_append, show nmAt l n :: l.drop (n + 1) = [nmAt l n] ++ l.drop (n + 1) from rfl, liveN_append]
  have e2 : liveN (l.set n x) = liveN (l.take n) + (liveN [x] + liveN (l.drop (n + 1))) := by
    rw [set_at h, liveN_append, show x :: l.drop (n + 1) = [x] ++ l.drop (n + 1) from rfl, liveN_append]
  rw [e1, e2, liveN_one, liveN_one]
  have e3 : liveX (nmAt l n) = liveB l n := rfl
  rw [e3]
  omega
theorem liveN_put {l : Nms} {n : Nat} (h : n ≤ l.length) (hd : liveB l n = false) (x : List UInt8 × Int) (hx : liveX x = true) : liveN (putL l n x) = liveN l + 1 := by
  unfold putL
  by_cases hn : n < l.length
  · rw [if_pos hn]
    have := liveN_set hn x
    rw [hd, hx] at this
    simpa using this
  · rw [if_neg hn, liveN_append, liveN_one, if_pos hx]
theorem liveN_le (l : Nms) : liveN l ≤ l.length := List.length_filter_le _ _

/-! ### What calls keep -/
theorem distinct_set {l : Nms} (hd : Distinct l) {n : Nat} (h : n < l.length) {x : List UInt8 × Int} (hx : liveX x = true → ∀ m, m ≠ n → liveB l m = true → (nmAt l m).1 ≠ x.1) : Distinct (l.set n x) := by
  intro i j hi hj e
  rw [liveB_set h] at hi hj
  rw [nmAt_set h, nmAt_set h] at e
  by_cases ei : i = n
  · by_cases ej : j = n
    · rw [ei, ej]
    · rw [if_pos ei] at hi e
      rw [if_neg ej] at hj e
      exact absurd e.symm (hx hi j ej hj)
  · rw [if_neg ei] at hi e
    by_cases ej : j = n
    · rw [if_pos ej] at hj e
      exact absurd e (hx hj i ei hi)
    · rw [if_neg ej] at hj e
      exact hd i j hi hj e
theorem liveB_put {l : Nms} {n m : Nat} {x : List UInt8 × Int} (h : n ≤ l.length) : liveB (putL l n x) m = if m = n then liveX x else liveB l m := by
  unfold liveB
  rw [nmAt_put h]
  split <;> rfl
theorem distinct_put {l : Nms} (hd : Distinct l) {n : Nat} (h : n ≤ l.length) {x : List UInt8 × Int} (hx : ∀ m, m ≠ n → liveB l m = true → (nmAt l m).1 ≠ x.1) : Distinct (putL l n x) := by
  intro i j hi hj e
  rw [liveB_put h] at hi hj
  rw [nmAt_put h, nmAt_put h] at e
  by_cases ei : i = n
  · by_cases ej : j = n
    · rw [ei, ej]
    · rw [if_pos ei] at e
      rw [if_neg ej] at hj e
      exact absurd e.symm (hx j ej hj)
  · rw [if_neg ei] at hi e
    by_cases ej : j = n
    · rw [if_pos ej] at e
      exact absurd e (hx i ei hi)
    · rw [if_neg ej] at hj e
      exact hd i j hi hj e
/-- A table that is right: at most 'most' names, all of them valid and different; no text where there is none; numbers below 'most'; at most R references to a name. -/
structure Wf (most : Int) (R : Int) (l : Nms) : Prop where
  dist : Distinct l
  size : (l.length : Int) ≤ most
  refs : ∀ n, 0 ≤ (nmAt l n).2 ∧ (nmAt l n).2 ≤ R
  text : ∀ n, liveB l n = true → validB (nmAt l n).1 = true
  none : ∀ n, liveB l n = false → nmAt l n = ([], 0)
theorem Wf.nil (most R : Int) (hm : 0 ≤ most) (hR : 0 ≤ R) : Wf most R [] := by
  refine ⟨fun i j hi => (by cases hi), hm, fun n => ?_, fun n hn => (by cases hn), fun n _ => rfl⟩
  show 0 ≤ (0 : Int) ∧ 0 ≤ R
  exact ⟨by decide, hR⟩
theorem Wf.mono {most R R' : Int} {l : Nms} (h : Wf most R l) (hR : R ≤ R') : Wf most R' l :=
  ⟨h.dist, h.size, fun n => ⟨(h.refs n).1, Int.le_trans (h.refs n).2 hR⟩, h.text, h.none⟩
theorem live_of_lt_liveN {l : Nms} (h : liveN l < l.length) : lowest l < l.length := by
  rcases Nat.lt_or_ge (lowest l) l.length with h1 | h1
  · exact h1
  · exfalso
    have : liveN l = l.length := by
      unfold liveN
      rw [List.filter_eq_self.2]
      intro x hx
      obtain ⟨i, hi, rfl⟩ := List.mem_iff_getElem.1 hx
      have := lowest_min l (m := i) (by omega)
      unfold liveB at this
      rw [nmAt_of (List.getElem?_eq_getElem hi)] at this
      exact this
    omega
theorem Wf.add {most R : Int} {l : Nms} (h : Wf most R l) (hR : 1 ≤ R + 1) (s : List UInt8) : Wf most (R + 1) (addM most l s).1 := by
  unfold addM
  by_cases hv : validB s = true
  · rw [if_pos hv]
    cases hf : findN l s with
    | some n =>
      obtain ⟨h1, h2⟩ := findN_some hf
      have hl := live_lt h1
      have hr := h.refs n
      have hp : 0 < (nmAt l n).2 := by unfold liveB at h1; simpa using h1
      have hx : liveX (s, (nmAt l n).2 + 1) = true := by unfold liveX; simp; omega
      refine ⟨distinct_set h.dist hl (fun _ m hm hlm e => hm (h.dist m n hlm h1 (e.trans h2.symm))), by rw [List.length_set]; exact h.size, fun m => ?_, fun m hm => ?_, fun m hm => ?_⟩
      · rw [nmAt_set hl]
        split
        · exact ⟨by simp only; omega, by simp only; omega⟩
        · exact ⟨(h.refs m).1, by have := (h.refs m).2; omega⟩
      · rw [liveB_set hl] at hm
        rw [nmAt_set hl]
        split
        · exact hv
        · rename_i e; rw [if_neg e] at hm; exact h.text m hm
      · rw [liveB_set hl] at hm
        rw [nmAt_set hl]
        split
        · rename_i e; rw [if_pos e, hx] at hm; cases hm
        · rename_i e; rw [if_neg e] at hm; exact h.none m hm
    | none =>
      simp only
      split
      · exact h.mono (by omega)
      · rename_i hm
        have hn := lowest_le l
        have hln := liveN_le l
        have hlt : lowest l < most := by
          rcases Nat.lt_or_ge (liveN l) l.length with h1 | h1
          · have := live_of_lt_liveN h1
            have := h.size
            omega
          · omega
        have hx : liveX (s, (1 : Int)) = true := rfl
        refine ⟨distinct_put h.dist hn (fun m hm hlm e => findN_none hf m hlm e), by rw [putL_len _ _ _ hn]; have := h.size; omega, fun m => ?_, fun m hm => ?_, fun m hm => ?_⟩
        · rw [nmAt_put hn]
          split
          · exact ⟨by simp, by simp only; omega⟩
          · exact ⟨(h.refs m).1, by have := (h.refs m).2; omega⟩
        · rw [liveB_put hn] at hm
          rw [nmAt_put hn]
          split
          · exact hv
          · rename_i e; rw [if_neg e] at hm; exact h.text m hm
        · rw [liveB_put hn] at hm
          rw [nmAt_put hn]
          split
          · rename_i e; rw [if_pos e, hx] at hm; cases hm
          · rename_i e; rw [if_neg e] at hm; exact h.none m hm
  · rw [if_neg hv]
    exact h.mono (by omega)
theorem Wf.rel {most R : Int} {l : Nms} (h : Wf most R l) (n : Int) : Wf most R (relM l n).1 := by
  unfold relM
  by_cases hh : hasM l n = true
  · rw [if_pos hh]
    unfold hasM at hh
    rw [Bool.and_eq_true] at hh
    have hl := live_lt hh.2
    have hr := h.refs n.toNat
    split
    · rename_i h1
      refine ⟨distinct_set h.dist hl (fun _ m hm hlm e => hm (h.dist m _ hlm hh.2 e)), by rw [List.length_set]; exact h.size, fun m => ?_, fun m hm => ?_, fun m hm => ?_⟩
      · rw [nmAt_set hl]
        split
        · exact ⟨by simp only; omega, by simp only; omega⟩
        · exact h.refs m
      · rw [liveB_set hl] at hm
        rw [nmAt_set hl]
        split
        · exact h.text _ hh.2
        · rename_i e; rw [if_neg e] at hm; exact h.text m hm
      · rw [liveB_set hl] at hm
        rw [nmAt_set hl]
        split
        · rename_i e
          rw [if_pos e] at hm
          unfold liveX at hm
          simp at hm
          omega
        · rename_i e; rw [if_neg e] at hm; exact h.none m hm
    · refine ⟨distinct_set h.dist hl (fun hx => by cases hx), by rw [List.length_set]; exact h.size, fun m => ?_, fun m hm => ?_, fun m hm => ?_⟩
      · rw [nmAt_set hl]
        split
        · exact ⟨by simp, by simp only; omega⟩
        · exact h.refs m
      · rw [liveB_set hl] at hm
        rw [nmAt_set hl]
        split
        · rename_i e; rw [if_pos e] at hm; cases hm
        · rename_i e; rw [if_neg e] at hm; exact h.text m hm
      · rw [liveB_set hl] at hm
        rw [nmAt_set hl]
        split
        · rfl
        · rename_i e; rw [if_neg e] at hm; exact h.none m hm
  · rw [if_neg hh]
    exact h
end Go.Proofs.YtfpkeinknhijaaaGreat
