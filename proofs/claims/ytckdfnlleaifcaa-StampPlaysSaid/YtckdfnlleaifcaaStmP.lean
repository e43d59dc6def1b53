/- Stamps as plain data: what is known of tags, what is over, and the document's calls. -/
import Derived.Lib.Hide
import Derived.WalkSmall
namespace Go.Proofs.Ytckdfnlleaifcaa
set_option linter.unusedVariables false

structure Sft where
  st : Nat
  tm : Nat
structure Pg where
  hard : Nat
  soft : List Sft
structure Tg where
  tag : Nat
  p : Pg
instance : Inhabited Sft := ⟨⟨0, 0⟩⟩
instance : Inhabited Pg := ⟨⟨0, []⟩⟩
instance : Inhabited Tg := ⟨⟨0, default⟩⟩
def overB (g now t : Nat) : Bool := decide (g < 18446744073709551615 - t) && decide (t + g ≤ now)
theorem over_down {g now t t' : Nat} (h : t ≤ t') (ho : overB g now t' = true) : overB g now t = true := by
  unfold overB at ho ⊢
  simp only [Bool.and_eq_true, decide_eq_true_eq] at ho ⊢
  omega
theorem over_later {g now now' t : Nat} (h : now ≤ now') (ho : overB g now t = true) : overB g now' t = true := by
  unfold overB at ho ⊢
  simp only [Bool.and_eq_true, decide_eq_true_eq] at ho ⊢
  omega
def softK (g now : Nat) (l : List Sft) : List Sft := l.filter fun x => !overB g now x.tm
def hardK (g now : Nat) (h : Nat) (l : List Sft) : Nat := l.foldl (fun h x => if overB g now x.tm = true then max h x.st else h) h
def normP (g now : Nat) (p : Pg) : Pg := ⟨hardK g now p.hard p.soft, softK g now p.soft⟩
def normT (g now : Nat) (x : Tg) : Tg := ⟨x.tag, normP g now x.p⟩
theorem hardK_max (g now st : Nat) : ∀ (l : List Sft) (h : Nat), hardK g now (max h st) l = max (hardK g now h l) st
  | [], h => rfl
  | x :: l, h => by
    unfold hardK
    rw [List.foldl_cons, List.foldl_cons]
    show hardK g now _ l = max (hardK g now _ l) st
    by_cases hx : overB g now x.tm = true
    · rw [if_pos hx, if_pos hx, ← hardK_max g now st l, show max (max h st) x.st = max (max h x.st) st by omega]
    · rw [if_neg hx, if_neg hx, hardK_max g now st l]
theorem hardK_cons {g now h : Nat} {x : Sft} {l : List Sft} : hardK g now h (x :: l) = hardK g now (if overB g now x.tm = true then max h x.st else h) l := rfl
theorem hardK_app (g now h : Nat) (l l' : List Sft) : hardK g now h (l ++ l') = hardK g now (hardK g now h l) l' := by
  unfold hardK
  rw [List.foldl_append]
theorem hardK_none {g now : Nat} : ∀ {l : List Sft} (h : Nat), (∀ x ∈ l, overB g now x.tm = false) → hardK g now h l = h
  | [], h, _ => rfl
  | x :: l, h, hl => by
    rw [hardK_cons, if_neg (by rw [hl x List.mem_cons_self]; simp), hardK_none h (fun y hy => hl y (List.mem_cons_of_mem _ hy))]
theorem hardK_twice {g now now' : Nat} (hn : now ≤ now') : ∀ (l : List Sft) (h : Nat), hardK g now' (hardK g now h l) (softK g now l) = hardK g now' h l
  | [], h => rfl
  | x :: l, h => by
    by_cases hx : overB g now x.tm = true
    · have e : softK g now (x :: l) = softK g now l := by unfold softK; rw [List.filter_cons, if_neg (by simp [hx])]
      rw [e, hardK_cons, if_pos hx, hardK_twice hn l, hardK_cons, if_pos (over_later hn hx)]
    · have e : softK g now (x :: l) = x :: softK g now l := by unfold softK; rw [List.filter_cons, if_pos (by simpa using hx)]
      rw [e, hardK_cons (g := g) (now := now), if_neg hx, hardK_cons (g := g) (now := now'), hardK_cons (g := g) (now := now')]
      by_cases hy : overB g now' x.tm = true
      · rw [if_pos hy, if_pos hy, ← hardK_max, hardK_twice hn l]
      · rw [if_neg hy, if_neg hy, hardK_twice hn l]
theorem softK_twice {g now now' : Nat} (hn : now ≤ now') (l : List Sft) : softK g now' (softK g now l) = softK g now' l := by
  unfold softK
  rw [List.filter_filter]
  refine List.filter_congr (fun x _ => ?_)
  cases h : overB g now' x.tm
  · cases h2 : overB g now x.tm
    · rfl
    · rw [over_later hn h2] at h; cases h
  · simp
theorem normP_twice {g now now' : Nat} (hn : now ≤ now') (p : Pg) : normP g now' (normP g now p) = normP g now' p := by
  unfold normP
  rw [hardK_twice hn, softK_twice hn]
theorem normT_twice {g now now' : Nat} (hn : now ≤ now') (x : Tg) : normT g now' (normT g now x) = normT g now' x := by
  unfold normT
  rw [normP_twice hn]
/-- Times rise. -/
def SUp (l : List Sft) : Prop := l.Pairwise (fun x y => x.tm < y.tm)
theorem softK_stays {g now : Nat} {x : Sft} {l : List Sft} (h : SUp (x :: l)) (hx : overB g now x.tm = false) : ∀ y ∈ x :: l, overB g now y.tm = false := by
  intro y hy
  rcases List.mem_cons.1 hy with rfl | hy
  · exact hx
  · have := (List.pairwise_cons.1 h).1 y hy
    cases e : overB g now y.tm
    · rfl
    · rw [over_down (Nat.le_of_lt this) e] at hx; cases hx
theorem softK_none {g now : Nat} {l : List Sft} (h : ∀ x ∈ l, overB g now x.tm = false) : softK g now l = l := by
  unfold softK
  rw [List.filter_eq_self]
  intro x hx
  rw [h x hx]
  rfl
theorem softK_cons_over {g now : Nat} {x : Sft} {l : List Sft} (hx : overB g now x.tm = true) : softK g now (x :: l) = softK g now l := by
  unfold softK; rw [List.filter_cons, if_neg (by simp [hx])]
theorem softK_over {g now : Nat} {l : List Sft} : ∀ x ∈ softK g now l, overB g now x.tm = false := by
  intro x hx
  unfold softK at hx
  have := (List.mem_filter.1 hx).2
  simpa using this
theorem SUp.soft {l : List Sft} (h : SUp l) (g now : Nat) : SUp (softK g now l) := h.sublist List.filter_sublist
/-- What is known of a tag is in order. -/
structure POk (now last : Nat) (p : Pg) : Prop where
  up : SUp p.soft
  hard : p.hard ≤ last
  st : ∀ x ∈ p.soft, 1 ≤ x.st ∧ x.st ≤ last
  tm : ∀ x ∈ p.soft, x.tm ≤ now
/-- Something is known. -/
def PNe (p : Pg) : Prop := p.hard ≠ 0 ∨ p.soft ≠ []
theorem hardK_le {g now last : Nat} : ∀ {l : List Sft} {h : Nat}, h ≤ last → (∀ x ∈ l, 1 ≤ x.st ∧ x.st ≤ last) → hardK g now h l ≤ last ∧ h ≤ hardK g now h l
  | [], h, hh, _ => ⟨hh, Nat.le_refl _⟩
  | x :: l, h, hh, hl => by
    rw [hardK_cons]
    have hx := hl x List.mem_cons_self
    split
    · obtain ⟨h1, h2⟩ := hardK_le (g := g) (now := now) (l := l) (h := max h x.st) (by omega) (fun y hy => hl y (List.mem_cons_of_mem _ hy))
      exact ⟨h1, by omega⟩
    · exact hardK_le hh (fun y hy => hl y (List.mem_cons_of_mem _ hy))
theorem POk.norm {now last : Nat} {p : Pg} (h : POk now last p) (g : Nat) {now' : Nat} (hn : now ≤ now') : POk now' last (normP g now' p) where
  up := h.up.soft g now'
  hard := (hardK_le h.hard h.st).1
  st := fun x hx => h.st x (List.mem_filter.1 hx).1
  tm := fun x hx => Nat.le_trans (h.tm x (List.mem_filter.1 hx).1) hn
theorem PNe.norm {now last : Nat} {p : Pg} (h : POk now last p) (hn2 : PNe p) (g : Nat) (now' : Nat) : PNe (normP g now' p) := by
  rcases hn2 with h1 | h1
  · left
    have := (hardK_le (g := g) (now := now') h.hard h.st).2
    show hardK g now' p.hard p.soft ≠ 0
    omega
  · rcases hs : p.soft with _ | ⟨x, l⟩
    · exact absurd hs h1
    · cases ho : overB g now' x.tm
      · right
        have hu : SUp (x :: l) := hs ▸ h.up
        show softK g now' p.soft ≠ []
        rw [hs, softK_none (softK_stays hu ho)]
        simp
      · left
        show hardK g now' p.hard p.soft ≠ 0
        rw [hs, hardK_cons, if_pos ho]
        have h2 := h.st x (by rw [hs]; exact List.mem_cons_self)
        have := (hardK_le (g := g) (now := now') (last := last) (l := l) (h := max p.hard x.st) (by have := h.hard; omega) (fun y hy => h.st y (by rw [hs]; exact List.mem_cons_of_mem _ hy))).2
        omega
theorem POk.later {now last now' last' : Nat} {p : Pg} (h : POk now last p) (hn : now ≤ now') (hl : last ≤ last') : POk now' last' p :=
  ⟨h.up, Nat.le_trans h.hard hl, fun x hx => ⟨(h.st x hx).1, Nat.le_trans (h.st x hx).2 hl⟩, fun x hx => Nat.le_trans (h.tm x hx) hn⟩
/-- One more soft purge. -/
def addS (n now : Nat) (l : List Sft) : List Sft := match l.getLast? with
  | some y => if y.tm = now then l.dropLast ++ [⟨n, now⟩] else l ++ [⟨n, now⟩]
  | none => [⟨n, now⟩]
theorem addS_len (n now : Nat) (l : List Sft) : (addS n now l).length ≤ l.length + 1 := by
  unfold addS
  split
  · split
    · simp
    · simp
  · simp
theorem addS_mem {n now : Nat} {l : List Sft} {x : Sft} (h : x ∈ addS n now l) : x ∈ l ∨ x = ⟨n, now⟩ := by
  unfold addS at h
  split at h
  · split at h
    · rcases List.mem_append.1 h with h | h
      · exact .inl (List.dropLast_subset _ h)
      · exact .inr (List.mem_singleton.1 h)
    · rcases List.mem_append.1 h with h | h
      · exact .inl h
      · exact .inr (List.mem_singleton.1 h)
  · exact .inr (List.mem_singleton.1 h)
theorem addS_ne (n now : Nat) (l : List Sft) : addS n now l ≠ [] := by
  unfold addS
  split
  · split <;> simp
  · simp
theorem addS_up {n now : Nat} {l : List Sft} (h : SUp l) (hn : ∀ x ∈ l, x.tm ≤ now) : SUp (addS n now l) := by
  unfold addS
  split
  · rename_i y hy
    obtain ⟨ys, rfl⟩ := List.getLast?_eq_some_iff.1 hy
    unfold SUp at h ⊢
    obtain ⟨h1, _, h3⟩ := List.pairwise_append.1 h
    split
    · rename_i e
      rw [List.dropLast_concat, List.pairwise_append]
      refine ⟨h1, List.pairwise_singleton _ _, fun a ha b hb => ?_⟩
      rw [List.mem_singleton.1 hb]
      have := h3 a ha y (List.mem_singleton.2 rfl)
      show a.tm < now
      omega
    · rename_i e
      rw [List.pairwise_append]
      refine ⟨h, List.pairwise_singleton _ _, fun a ha b hb => ?_⟩
      rw [List.mem_singleton.1 hb]
      show a.tm < now
      have hy2 := hn y (List.mem_append.2 (.inr (List.mem_singleton.2 rfl)))
      rcases List.mem_append.1 ha with ha | ha
      · have := h3 a ha y (List.mem_singleton.2 rfl)
        omega
      · rw [List.mem_singleton.1 ha]
        omega
  · exact List.pairwise_singleton _ _

/-! ### lists of tags -/
def insT (x : Tg) : List Tg → List Tg
  | [] => [x]
  | y :: r => if x.tag < y.tag then x :: y :: r else if x.tag = y.tag then x :: r else y :: insT x r
def delT (t : Nat) (d : List Tg) : List Tg := d.filter fun x => !(x.tag == t)
def getT (t : Nat) (d : List Tg) : Option Tg := d.find? fun x => x.tag == t
def TUp (d : List Tg) : Prop := d.Pairwise (fun x y => x.tag < y.tag)
theorem insT_mem {x z : Tg} : ∀ {d : List Tg}, z ∈ insT x d → z = x ∨ z ∈ d
  | [], h => by simp [insT] at h; exact .inl h
  | y :: r, h => by
    unfold insT at h
    split at h
    · rcases List.mem_cons.1 h with h | h
      · exact .inl h
      · exact .inr h
    · split at h
      · rcases List.mem_cons.1 h with h | h
        · exact .inl h
        · exact .inr (List.mem_cons_of_mem _ h)
      · rcases List.mem_cons.1 h with h | h
        · exact .inr (by rw [h]; exact List.mem_cons_self)
        · rcases insT_mem h with h | h
          · exact .inl h
          · exact .inr (List.mem_cons_of_mem _ h)
theorem insT_up {x : Tg} : ∀ {d : List Tg}, TUp d → TUp (insT x d)
  | [], _ => List.pairwise_singleton _ _
  | y :: r, h => by
    obtain ⟨h1, h2⟩ := List.pairwise_cons.1 h
    unfold insT
    split
    · rename_i hlt
      refine List.pairwise_cons.2 ⟨fun z hz => ?_, h⟩
      rcases List.mem_cons.1 hz with rfl | hz
      · exact hlt
      · have := h1 z hz; omega
    · split
      · rename_i e
        exact List.pairwise_cons.2 ⟨fun z hz => by have := h1 z hz; omega, h2⟩
      · rename_i h3 h4
        refine List.pairwise_cons.2 ⟨fun z hz => ?_, insT_up h2⟩
        rcases insT_mem hz with rfl | hz
        · omega
        · exact h1 z hz
theorem insT_len (x : Tg) : ∀ d : List Tg, (insT x d).length ≤ d.length + 1
  | [] => by simp [insT]
  | y :: r => by
    unfold insT
    split
    · simp
    · split
      · simp
      · have := insT_len x r
        simp; omega
theorem delT_up {d : List Tg} (h : TUp d) (t : Nat) : TUp (delT t d) := h.sublist List.filter_sublist
theorem delT_len (t : Nat) (d : List Tg) : (delT t d).length ≤ d.length := List.length_filter_le _ _
theorem map_up {d : List Tg} (h : TUp d) (f : Tg → Tg) (hf : ∀ x, (f x).tag = x.tag) : TUp (d.map f) := by
  unfold TUp at *
  rw [List.pairwise_map]
  exact h.imp (fun {x y} hxy => by rw [hf, hf]; exact hxy)
theorem insT_map (f : Tg → Tg) (hf : ∀ x, (f x).tag = x.tag) (x : Tg) : ∀ d : List Tg, (insT x d).map f = insT (f x) (d.map f)
  | [] => rfl
  | y :: r => by
    rw [List.map_cons]
    unfold insT
    rw [hf, hf]
    split
    · rfl
    · split
      · rfl
      · rw [List.map_cons, insT_map f hf x r]
theorem delT_map (f : Tg → Tg) (hf : ∀ x, (f x).tag = x.tag) (t : Nat) (d : List Tg) : (delT t d).map f = delT t (d.map f) := by
  unfold delT
  rw [List.filter_map]
  congr 2
  funext x
  simp [hf]
theorem getT_map (f : Tg → Tg) (hf : ∀ x, (f x).tag = x.tag) (t : Nat) (d : List Tg) : getT t (d.map f) = (getT t d).map f := by
  unfold getT
  rw [List.find?_map]
  congr 2
  funext x
  simp [hf]
theorem getT_mem {t : Nat} {d : List Tg} {x : Tg} (h : getT t d = some x) : x ∈ d ∧ x.tag = t := by
  unfold getT at h
  exact ⟨List.mem_of_find?_eq_some h, by simpa using List.find?_some h⟩
theorem getT_none {t : Nat} {d : List Tg} (h : getT t d = none) : ∀ x ∈ d, x.tag ≠ t := by
  unfold getT at h
  rw [List.find?_eq_none] at h
  intro x hx e
  exact h x hx (by simpa using e)
theorem getT_of {d : List Tg} (h : TUp d) : ∀ {x : Tg}, x ∈ d → getT x.tag d = some x := by
  intro x hx
  induction d with
  | nil => cases hx
  | cons y r ih =>
    obtain ⟨h1, h2⟩ := List.pairwise_cons.1 h
    unfold getT
    rw [List.find?_cons]
    rcases List.mem_cons.1 hx with rfl | hx
    · simp
    · have := h1 x hx
      have e : (y.tag == x.tag) = false := by simp; omega
      rw [e]
      exact ih h2 hx
theorem getT_ins_same (x : Tg) {d : List Tg} (h : TUp d) : getT x.tag (insT x d) = some x := by
  refine getT_of (insT_up h) ?_
  clear h
  induction d with
  | nil => simp [insT]
  | cons y r ih =>
    unfold insT
    split
    · exact List.mem_cons_self
    · split
      · exact List.mem_cons_self
      · exact List.mem_cons_of_mem _ ih
theorem getT_ins_other {x : Tg} {t : Nat} (hne : t ≠ x.tag) : ∀ d : List Tg, getT t (insT x d) = getT t d
  | [] => by simp [insT, getT]; omega
  | y :: r => by
    have ih := getT_ins_other hne r
    unfold getT at *
    unfold insT
    have e : (x.tag == t) = false := by simp; omega
    split
    · rw [List.find?_cons, e]
    · split
      · rename_i h1 h2
        have e2 : (y.tag == t) = false := by simp; omega
        rw [List.find?_cons, List.find?_cons, e, e2]
      · rw [List.find?_cons, List.find?_cons, ih]
theorem getT_del_same (t : Nat) (d : List Tg) : getT t (delT t d) = none := by
  unfold getT delT
  rw [List.find?_eq_none]
  intro x hx
  have := (List.mem_filter.1 hx).2
  simpa using this
theorem getT_del_other {t t' : Nat} (hne : t' ≠ t) (d : List Tg) : getT t' (delT t d) = getT t' d := by
  unfold getT delT
  rw [List.find?_filter]
  congr 1
  funext x
  by_cases h : x.tag = t'
  · simp [h, hne]
  · simp [h]
/-- What is replaced stays in its place. -/
theorem insT_there {x y : Tg} {A B : List Tg} (h : TUp (A ++ y :: B)) (e : x.tag = y.tag) : insT x (A ++ y :: B) = A ++ x :: B := by
  induction A with
  | nil =>
    show insT x (y :: B) = _
    unfold insT
    rw [if_neg (by omega), if_pos e]
    rfl
  | cons a A ih =>
    have h' : TUp (a :: (A ++ y :: B)) := h
    obtain ⟨h1, h2⟩ := List.pairwise_cons.1 h'
    have := h1 y (List.mem_append.2 (.inr List.mem_cons_self))
    show insT x (a :: (A ++ y :: B)) = _
    unfold insT
    rw [if_neg (by omega), if_neg (by omega), ih h2]
    rfl
/-- What is known, at a time and a last stamp. -/
structure LOk (now last : Nat) (d : List Tg) : Prop where
  up : TUp d
  tag : ∀ x ∈ d, x.tag < 65536
  p : ∀ x ∈ d, POk now last x.p
theorem LOk.nil (now last : Nat) : LOk now last [] := ⟨List.Pairwise.nil, (by intro x hx; cases hx), (by intro x hx; cases hx)⟩
theorem LOk.later {now last now' last' : Nat} {d : List Tg} (h : LOk now last d) (hn : now ≤ now') (hl : last ≤ last') : LOk now' last' d := ⟨h.up, h.tag, fun x hx => (h.p x hx).later hn hl⟩
theorem LOk.norm {now last : Nat} {d : List Tg} (h : LOk now last d) (g : Nat) {now' : Nat} (hn : now ≤ now') : LOk now' last (d.map (normT g now')) where
  up := map_up h.up _ (fun x => rfl)
  tag := fun x hx => by obtain ⟨y, hy, rfl⟩ := List.mem_map.1 hx; exact h.tag y hy
  p := fun x hx => by obtain ⟨y, hy, rfl⟩ := List.mem_map.1 hx; exact (h.p y hy).norm g hn
theorem LOk.ins {now last : Nat} {d : List Tg} (h : LOk now last d) {x : Tg} (ht : x.tag < 65536) (hp : POk now last x.p) : LOk now last (insT x d) where
  up := insT_up h.up
  tag := fun z hz => by rcases insT_mem hz with rfl | hz; exact ht; exact h.tag z hz
  p := fun z hz => by rcases insT_mem hz with rfl | hz; exact hp; exact h.p z hz
theorem LOk.del {now last : Nat} {d : List Tg} (h : LOk now last d) (t : Nat) : LOk now last (delT t d) :=
  ⟨delT_up h.up t, fun x hx => h.tag x (List.mem_filter.1 hx).1, fun x hx => h.p x (List.mem_filter.1 hx).1⟩
def LNe (d : List Tg) : Prop := ∀ x ∈ d, PNe x.p
theorem LNe.norm {now last : Nat} {d : List Tg} (h : LOk now last d) (hn : LNe d) (g now' : Nat) : LNe (d.map (normT g now')) := fun x hx => by
  obtain ⟨y, hy, rfl⟩ := List.mem_map.1 hx
  exact (hn y hy).norm (h.p y hy) g now'
theorem LNe.ins {d : List Tg} (h : LNe d) {x : Tg} (hx : PNe x.p) : LNe (insT x d) := fun z hz => by rcases insT_mem hz with rfl | hz; exact hx; exact h z hz
theorem LNe.del {d : List Tg} (h : LNe d) (t : Nat) : LNe (delT t d) := fun x hx => h x (List.mem_filter.1 hx).1
def insK (t : Nat) : List Nat → List Nat
  | [] => [t]
  | y :: r => if t < y then t :: y :: r else if t = y then t :: r else y :: insK t r
theorem insT_keys (x : Tg) : ∀ d : List Tg, (insT x d).map (·.tag) = insK x.tag (d.map (·.tag))
  | [] => rfl
  | y :: r => by
    rw [List.map_cons]
    unfold insT insK
    split
    · rfl
    · split
      · rfl
      · rw [List.map_cons, insT_keys x r]
theorem insT_c (x y : Tg) (r : List Tg) : insT x (y :: r) = if x.tag < y.tag then x :: y :: r else if x.tag = y.tag then x :: r else y :: insT x r := rfl
theorem insT_twice (x y : Tg) (e : x.tag = y.tag) : ∀ d : List Tg, insT x (insT y d) = insT x d
  | [] => by
    show insT x [y] = [x]
    rw [insT_c, if_neg (by omega), if_pos e]
  | z :: r => by
    rw [insT_c y z r, insT_c x z r]
    by_cases h1 : y.tag < z.tag
    · rw [if_pos h1, insT_c, if_neg (by omega), if_pos e, if_pos (by omega)]
    · by_cases h2 : y.tag = z.tag
      · rw [if_neg h1, if_pos h2, insT_c, if_neg (by omega), if_pos e, if_neg (by omega), if_pos (by omega)]
      · rw [if_neg h1, if_neg h2, insT_c, if_neg (by omega), if_neg (by omega), insT_twice x y e r, if_neg (by omega), if_neg (by omega)]
theorem insT_nrm {f : Tg → Tg} (hf : ∀ x, (f x).tag = x.tag) (x : Tg) (hx : ∀ y, y.tag ≠ x.tag → f y = y) : ∀ d : List Tg, TUp d → insT x (d.map f) = insT x d
  | [], _ => rfl
  | z :: r, h => by
    obtain ⟨h1, h2⟩ := List.pairwise_cons.1 h
    have hid : ∀ l : List Tg, (∀ y ∈ l, x.tag < y.tag) → l.map f = l := fun l hl => by
      conv => rhs; rw [← List.map_id l]
      exact List.map_congr_left (fun y hy => hx y (by have := hl y hy; omega))
    rw [List.map_cons]
    unfold insT
    rw [hf]
    split
    · rw [hid r (fun y hy => by have := h1 y hy; omega), hx z (by omega)]
    · split
      · rw [hid r (fun y hy => by have := h1 y hy; omega)]
      · rw [hx z (by omega), insT_nrm hf x hx r h2]
/-! ### the document's calls -/
def advD (g now : Nat) (d : List Tg) : List Tg := d.map (normT g now)
def knownP (t : Nat) (d : List Tg) : Pg := match getT t d with | some x => x.p | none => ⟨0, []⟩
def hardD (g now n t : Nat) (d : List Tg) : List Tg := insT ⟨t, ⟨n, []⟩⟩ (advD g now d)
def softD (g now n t : Nat) (d : List Tg) : List Tg := insT (normT g now ⟨t, ⟨(knownP t (advD g now d)).hard, addS n now (knownP t (advD g now d)).soft⟩⟩) (advD g now d)
theorem advD_twice {g now now' : Nat} (hn : now ≤ now') (d : List Tg) : advD g now' (advD g now d) = advD g now' d := by
  unfold advD
  rw [List.map_map]
  refine List.map_congr_left (fun x _ => ?_)
  exact normT_twice hn x
end Go.Proofs.Ytckdfnlleaifcaa
