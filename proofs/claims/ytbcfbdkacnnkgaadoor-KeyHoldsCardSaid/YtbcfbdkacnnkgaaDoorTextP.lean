/- The plain laws of texts: a string as a text, and back. No program in sight. -/
import Derived.WalkKit
namespace Go.Proofs.YtbcfbdkacnnkgaaDoor
set_option linter.unusedVariables false
open Go

abbrev Tx := List UInt8

def hexL : List UInt8 := [48, 49, 50, 51, 52, 53, 54, 55, 56, 57, 97, 98, 99, 100, 101, 102]
def hexD (n : Nat) : UInt8 := hexL.getD n 0
/-- What a digit is worth. -/
def hexV (c : UInt8) : Option Nat := hexL.findIdx? (· == c)
def okB (c : UInt8) : Bool := decide (33 ≤ c.toNat) && decide (c.toNat ≤ 126) && !(c.toNat == 37) && !(c.toNat == 34)
def tB (c : UInt8) : Tx := if okB c then [c] else [37, hexD (c.toNat / 16), hexD (c.toNat % 16)]
def tBody : Tx → Tx
  | [] => []
  | c :: r => tB c ++ tBody r
def rText (l : Tx) : Tx := if l = [] then [34, 34] else tBody l
def kText (l : Tx) : Tx × Int := if 250 < l.length then ([], 5) else (rText l, 0)

/-- The reference's way back. -/
def rDec : Tx → Option Tx
  | [] => some []
  | c :: r =>
    if okB c then (rDec r).map (c :: ·)
    else if c = 37 then
      match r with
      | x :: y :: r2 =>
        match hexV x, hexV y with
        | some a, some b => if okB (UInt8.ofNat (16 * a + b)) then none else (rDec r2).map (UInt8.ofNat (16 * a + b) :: ·)
        | _, _ => none
      | _ => none
    else none
/-- The program's way back. -/
def pDec : Tx → Option Tx
  | [] => some []
  | c :: r =>
    if c = 37 then
      match r with
      | x :: y :: r2 =>
        match hexV x, hexV y with
        | some a, some b => (pDec r2).map (UInt8.ofNat (16 * a + b) :: ·)
        | _, _ => none
      | _ => none
    else (pDec r).map (c :: ·)

def rParse (s : Tx) : Option Tx := if s = [34, 34] then some [] else match rDec s with
  | some x => if x = [] ∨ 250 < x.length then none else some x
  | none => none
def kParse (s : Tx) : Tx × Int := if s = [34, 34] then ([], 0) else match pDec s with
  | some x => if kText x = (s, 0) then (x, 0) else ([], 6)
  | none => ([], 6)

theorem byte_all (p : UInt8 → Bool) (h : (List.range 256).all (fun n => p (UInt8.ofNat n)) = true) (c : UInt8) : p c = true := by
  have := List.all_eq_true.1 h c.toNat (List.mem_range.2 c.toNat_lt)
  simpa using this

theorem hex_pair (c : UInt8) : hexV (hexD (c.toNat / 16)) = some (c.toNat / 16) ∧ hexV (hexD (c.toNat % 16)) = some (c.toNat % 16) := by
  have := byte_all (fun c => decide (hexV (hexD (c.toNat / 16)) = some (c.toNat / 16) ∧ hexV (hexD (c.toNat % 16)) = some (c.toNat % 16))) (by decide +kernel) c
  exact of_decide_eq_true this
theorem hex_join (c : UInt8) : UInt8.ofNat (16 * (c.toNat / 16) + c.toNat % 16) = c := by
  rw [Nat.div_add_mod]; simp
theorem hexV_some {c : UInt8} {a : Nat} (h : hexV c = some a) : a < 16 ∧ hexD a = c := by
  have := byte_all (fun c => match hexV c with | some a => decide (a < 16 ∧ hexD a = c) | none => true) (by decide +kernel) c
  rw [h] at this
  exact of_decide_eq_true this
theorem okB_not {c : UInt8} (h : c = 37) : okB c = false := by subst h; rfl
theorem okB_37 (c : UInt8) (h : okB c = true) : c ≠ 37 := by rintro rfl; cases h
theorem okB_34 (c : UInt8) (h : okB c = true) : c ≠ 34 := by rintro rfl; cases h

theorem tBody_nil {l : Tx} (h : tBody l = []) : l = [] := by
  cases l with
  | nil => rfl
  | cons c r =>
    unfold tBody tB at h
    split at h <;> simp at h
theorem tBody_ne (l : Tx) : tBody l ≠ [34, 34] := by
  cases l with
  | nil => simp [tBody]
  | cons c r =>
    unfold tBody tB
    split
    · rename_i h
      intro e
      simp only [List.cons_append, List.nil_append, List.cons.injEq] at e
      exact okB_34 c h e.1
    · intro e
      simp at e

/-- The way back undoes the way there. -/
theorem rDec_tBody (l : Tx) : rDec (tBody l) = some l := by
  induction l with
  | nil => rfl
  | cons c r ih =>
    unfold tBody tB
    split
    · rename_i h
      show rDec (c :: tBody r) = _
      rw [rDec.eq_def]
      simp only [h, if_true, ih, Option.map_some]
    · rename_i h
      show rDec (37 :: hexD (c.toNat / 16) :: hexD (c.toNat % 16) :: tBody r) = _
      rw [rDec.eq_def]
      obtain ⟨h1, h2⟩ := hex_pair c
      have h3 : okB 37 = false := rfl
      simp only [h3, Bool.false_eq_true, if_false, if_true, h1, h2, hex_join, h, ih, Option.map_some]

theorem rDec_spec : ∀ (n : Nat) (s x : Tx), s.length ≤ n → rDec s = some x → pDec s = some x ∧ tBody x = s
  | _, [], x, _, h => by
    rw [rDec.eq_def] at h
    obtain rfl : [] = x := Option.some.inj h
    exact ⟨by rw [pDec.eq_def], rfl⟩
  | n + 1, c :: r, x, hn, h => by
    rw [rDec.eq_def] at h
    rw [pDec.eq_def]
    simp only at h ⊢
    by_cases hok : okB c = true
    · rw [if_pos hok] at h
      rw [if_neg (okB_37 c hok)]
      obtain ⟨y, hy, rfl⟩ := Option.map_eq_some_iff.1 h
      obtain ⟨h1, h2⟩ := rDec_spec n r y (by simpa using hn) hy
      refine ⟨by rw [h1]; rfl, ?_⟩
      show tB c ++ tBody y = _
      rw [h2, tB, if_pos hok]
      rfl
    · rw [if_neg hok] at h
      by_cases h37 : c = 37
      · rw [if_pos h37] at h
        rw [if_pos h37]
        match r, h, hn with
        | [], h, _ => cases h
        | [_], h, _ => cases h
        | p :: q :: r2, h, hn =>
          simp only at h ⊢
          rcases hp : hexV p with _ | a
          · rw [hp] at h; cases h
          · rcases hq : hexV q with _ | b
            · rw [hp, hq] at h; cases h
            · rw [hp, hq] at h
              simp only at h ⊢
              split at h
              · cases h
              · rename_i hnk
                obtain ⟨y, hy, rfl⟩ := Option.map_eq_some_iff.1 h
                obtain ⟨h1, h2⟩ := rDec_spec n r2 y (by simp at hn ⊢; omega) hy
                refine ⟨by rw [h1]; rfl, ?_⟩
                show tB _ ++ tBody y = _
                obtain ⟨a1, a2⟩ := hexV_some hp
                obtain ⟨b1, b2⟩ := hexV_some hq
                have ht : (UInt8.ofNat (16 * a + b)).toNat = 16 * a + b := by
                  rw [UInt8.toNat_ofNat']; omega
                have e1 : (16 * a + b) / 16 = a := by omega
                have e2 : (16 * a + b) % 16 = b := by omega
                rw [h2, tB, if_neg hnk, ht, e1, e2, a2, b2, h37]
                rfl
      · rw [if_neg h37] at h; cases h
  | 0, c :: r, x, hn, h => by simp at hn

theorem kText_eq (x s : Tx) (hs : s ≠ [34, 34]) : kText x = (s, 0) ↔ x ≠ [] ∧ x.length ≤ 250 ∧ tBody x = s := by
  unfold kText rText
  split
  · rename_i h
    constructor
    · intro e; cases e
    · rintro ⟨_, h2, _⟩; omega
  · rename_i h
    split
    · rename_i h0
      constructor
      · intro e; exact absurd (congrArg Prod.fst e).symm hs
      · rintro ⟨h1, _⟩; exact absurd h0 h1
    · rename_i h0
      constructor
      · intro e; exact ⟨h0, by omega, congrArg Prod.fst e⟩
      · rintro ⟨_, _, e⟩; rw [e]

/-- What the program parses is what the reference parses. -/
theorem kParse_eq (s : Tx) : kParse s = match rParse s with | some x => (x, 0) | none => ([], 6) := by
  unfold kParse rParse
  by_cases h : s = [34, 34]
  · rw [if_pos h, if_pos h]
  · rw [if_neg h, if_neg h]
    cases hr : rDec s with
    | some x =>
      obtain ⟨h1, h2⟩ := rDec_spec s.length s x (Nat.le_refl _) hr
      rw [h1]
      simp only
      by_cases hx : x = [] ∨ 250 < x.length
      · rw [if_pos hx, if_neg]
        intro e
        obtain ⟨e1, e2, _⟩ := (kText_eq x s h).1 e
        rcases hx with hx | hx
        · exact e1 hx
        · omega
      · rw [if_neg hx, if_pos]
        refine (kText_eq x s h).2 ⟨fun e => hx (.inl e), ?_, h2⟩
        have : ¬ 250 < x.length := fun e => hx (.inr e)
        omega
    | none =>
      cases hp : pDec s with
      | none => rfl
      | some x =>
        simp only
        rw [if_neg]
        intro e
        obtain ⟨_, _, e2⟩ := (kText_eq x s h).1 e
        rw [← e2, rDec_tBody] at hr
        cases hr

/-- Parse undoes Text. -/
theorem kParse_kText (s : Tx) (hs : s.length ≤ 250) : kParse (rText s) = (s, 0) := by
  unfold rText
  split
  · rename_i h; subst h; rfl
  · rename_i h
    rw [kParse_eq, rParse, if_neg (tBody_ne s), rDec_tBody]
    simp only
    rw [if_neg]
    rintro (e | e)
    · exact h e
    · omega
/-- Text undoes Parse. -/
theorem kText_kParse (t x : Tx) (h : kParse t = (x, 0)) : kText x = (t, 0) := by
  unfold kParse at h
  split at h
  · rename_i h0
    obtain rfl : [] = x := congrArg Prod.fst h
    subst h0
    rfl
  · split at h
    · split at h
      · rename_i hk
        have := congrArg Prod.fst h
        simp only at this
        rw [← this]; exact hk
      · cases h
    · cases h
theorem kText_long (s : Tx) (h : 250 < s.length) : kText s = ([], 5) := by rw [kText, if_pos h]
theorem kText_short (s : Tx) (h : s.length ≤ 250) : kText s = (rText s, 0) := by rw [kText, if_neg (by omega)]
theorem tB_length (c : UInt8) : (tB c).length ≤ 3 := by unfold tB; split <;> simp
theorem tBody_append (a b : Tx) : tBody (a ++ b) = tBody a ++ tBody b := by
  induction a with
  | nil => rfl
  | cons c r ih => show tB c ++ tBody (r ++ b) = tB c ++ tBody r ++ tBody b; rw [ih, List.append_assoc]
theorem tBody_length (l : Tx) : (tBody l).length ≤ 3 * l.length := by
  induction l with
  | nil => simp [tBody]
  | cons c r ih =>
    have := tB_length c
    show (tB c ++ tBody r).length ≤ _
    rw [List.length_append, List.length_cons]; omega
end Go.Proofs.YtbcfbdkacnnkgaaDoor
