/- The document's lists with the values that they hold: plain law of Know and Advance. -/
import Derived.Test.YtckdfnlleaifcaaStmP
namespace Go.Proofs.Ytckdfnlleaifcaa
set_option linter.unusedVariables false

/-- What is known of a tag, with the value of its soft purges. -/
structure Ev where
  x : Tg
  v : Value
def unE (E : List Ev) : List Tg := E.map (·.x)
def insE (e : Ev) : List Ev → List Ev
  | [] => [e]
  | y :: r => if e.x.tag < y.x.tag then e :: y :: r else if e.x.tag = y.x.tag then e :: r else y :: insE e r
def delE (t : Nat) (E : List Ev) : List Ev := E.filter fun e => !(e.x.tag == t)
theorem insE_un (e : Ev) : ∀ E : List Ev, unE (insE e E) = insT e.x (unE E)
  | [] => rfl
  | y :: r => by
    have ih := insE_un e r
    unfold unE at ih ⊢
    rw [List.map_cons, insT_c]
    unfold insE
    split
    · rfl
    · split
      · rfl
      · rw [List.map_cons, ih]
theorem delE_un (t : Nat) (E : List Ev) : unE (delE t E) = delT t (unE E) := by
  unfold unE delE delT
  rw [List.filter_map]
  rfl
theorem insE_mem {e z : Ev} : ∀ {E : List Ev}, z ∈ insE e E → z = e ∨ z ∈ E
  | [], h => by simp [insE] at h; exact .inl h
  | y :: r, h => by
    unfold insE at h
    split at h
    · rcases List.mem_cons.1 h with h | h
      · exact .inl h
      · exact .inr h
    · split at h
      · rcases List.mem_cons.1 h with h | h
        · exact .inl h
        · exact .inr (List.mem_cons_of_mem _ h)
      · rcases List.mem_cons.1 h with h | h
        · exact .inr (by rw [h]; exact List.mem_cons_self)
        · rcases insE_mem h with h | h
          · exact .inl h
          · exact .inr (List.mem_cons_of_mem _ h)
/-- One step of Know's second loop. -/
def kst (e : Ev) (s : List Ev × Bool) (z : Ev) : List Ev × Bool :=
  let s1 := if s.2 = false ∧ e.x.tag < z.x.tag then (s.1 ++ [e], true) else s
  if z.x.tag = e.x.tag then s1 else (s1.1 ++ [z], s1.2)
def kfin (e : Ev) (s : List Ev × Bool) : List Ev := if s.2 then s.1 else s.1 ++ [e]
theorem kst_done (e : Ev) : ∀ (E : List Ev) (out : List Ev), (E.foldl (kst e) (out, true)) = (out ++ delE e.x.tag E, true)
  | [], out => by simp [delE]
  | z :: r, out => by
    rw [List.foldl_cons]
    unfold kst
    simp only [Bool.true_eq_false, false_and, if_false]
    have hc : delE e.x.tag (z :: r) = if z.x.tag = e.x.tag then delE e.x.tag r else z :: delE e.x.tag r := by
      unfold delE
      rw [List.filter_cons]
      by_cases h : z.x.tag = e.x.tag <;> simp [h]
    rw [hc]
    by_cases h : z.x.tag = e.x.tag
    · rw [if_pos h, if_pos h]
      exact kst_done e r out
    · rw [if_neg h, if_neg h]
      have := kst_done e r (out ++ [z])
      simp only [List.append_assoc, List.singleton_append] at this
      exact this
theorem delE_above {t : Nat} : ∀ {E : List Ev}, (∀ z ∈ E, t < z.x.tag) → delE t E = E := by
  intro E h
  unfold delE
  rw [List.filter_eq_self]
  intro z hz
  have := h z hz
  have e : (z.x.tag == t) = false := by simp; omega
  rw [e]
  rfl
theorem kst_ins (e : Ev) : ∀ (E : List Ev) (out : List Ev), TUp (unE E) → kfin e (E.foldl (kst e) (out, false)) = out ++ insE e E
  | [], out, _ => rfl
  | z :: r, out, h => by
    obtain ⟨h1, h2⟩ := List.pairwise_cons.1 h
    have habove : e.x.tag ≤ z.x.tag → ∀ y ∈ r, e.x.tag < y.x.tag := fun hle y hy => by
      have h5 : z.x.tag < y.x.tag := h1 y.x (List.mem_map.2 ⟨y, hy, rfl⟩)
      omega
    rw [List.foldl_cons]
    unfold insE
    by_cases hlt : e.x.tag < z.x.tag
    · have : kst e (out, false) z = (out ++ [e] ++ [z], true) := by
        unfold kst
        simp only [true_and, if_pos hlt]
        rw [if_neg (by omega)]
      rw [this, kst_done, if_pos hlt, delE_above (habove (by omega))]
      unfold kfin
      simp
    · rw [if_neg hlt]
      by_cases he : e.x.tag = z.x.tag
      · have : kst e (out, false) z = (out, false) := by
          unfold kst
          simp only [true_and, if_neg hlt]
          rw [if_pos he.symm]
        rw [this, if_pos he, kst_ins e r out h2]
        congr 1
        rcases r with _ | ⟨y, r⟩
        · rfl
        · have := habove (by omega) y List.mem_cons_self
          unfold insE
          rw [if_pos this]
      · have : kst e (out, false) z = (out ++ [z], false) := by
          unfold kst
          simp only [true_and, if_neg hlt]
          rw [if_neg (fun e2 => he e2.symm)]
        rw [this, if_neg he, kst_ins e r (out ++ [z]) h2]
        simp
/-- The list that Know returns. -/
def knowE (e : Ev) (E : List Ev) : List Ev := if e.x.p.hard = 0 ∧ e.x.p.soft = [] then delE e.x.tag E else insE e E
theorem know_fin (e : Ev) (E : List Ev) (h : TUp (unE E)) : kfin e (E.foldl (kst e) ([], decide (e.x.p.hard = 0 ∧ e.x.p.soft = []))) = knowE e E := by
  unfold knowE
  by_cases hd : e.x.p.hard = 0 ∧ e.x.p.soft = []
  · rw [decide_eq_true hd, if_pos hd, kst_done]
    simp [kfin]
  · rw [decide_eq_false hd, if_neg hd, kst_ins e E [] h]
    rfl
def knowT (x : Tg) (d : List Tg) : List Tg := if x.p.hard = 0 ∧ x.p.soft = [] then delT x.tag d else insT x d
theorem knowE_un (e : Ev) (E : List Ev) : unE (knowE e E) = knowT e.x (unE E) := by
  unfold knowE knowT
  split
  · exact delE_un _ _
  · exact insE_un _ _
/-- Advance's loop: what has been looked at is up to date. -/
theorem know_adv {g now : Nat} {A B : List Tg} {x : Tg} (h : TUp (A.map (normT g now) ++ x :: B)) (hx : PNe (normP g now x.p)) : knowT (normT g now x) (A.map (normT g now) ++ x :: B) = (A ++ [x]).map (normT g now) ++ B := by
  unfold knowT
  rw [if_neg (fun e => by rcases hx with h1 | h1; exact h1 e.1; exact h1 e.2), insT_there (x := normT g now x) h rfl]
  simp
end Go.Proofs.Ytckdfnlleaifcaa
