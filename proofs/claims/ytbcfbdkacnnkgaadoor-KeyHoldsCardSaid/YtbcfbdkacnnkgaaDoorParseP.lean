/- The plain laws of parsing, step by step. No program in sight. -/
import Derived.Test.YtbcfbdkacnnkgaaDoorTextP
namespace Go.Proofs.YtbcfbdkacnnkgaaDoor
set_option linter.unusedVariables false
open Go

theorem drop_at (l : Tx) (k : Nat) (c : UInt8) (h : l[k]? = some c) : l.drop k = c :: l.drop (k + 1) := by
  obtain ⟨hk, rfl⟩ := List.getElem?_eq_some_iff.1 h
  exact List.drop_eq_getElem_cons hk

def RR (l : Tx) (k : Nat) (T : Tx) : Prop := rDec l = (rDec (l.drop k)).map (T ++ ·)
def PP (l : Tx) (k : Nat) (T : Tx) : Prop := pDec l = (pDec (l.drop k)).map (T ++ ·)

theorem map_cons (T : Tx) (c : UInt8) (o : Option Tx) : (o.map (c :: ·)).map (T ++ ·) = o.map ((T ++ [c]) ++ ·) := by
  cases o with
  | none => rfl
  | some x => simp

theorem RR_start (l : Tx) : RR l 0 [] := by
  unfold RR
  cases h : rDec l <;> simp [h]
theorem PP_start (l : Tx) : PP l 0 [] := by
  unfold PP
  cases h : pDec l <;> simp [h]
theorem RR_end (l T : Tx) (h : RR l l.length T) : rDec l = some T := by
  rw [RR, List.drop_length, show rDec [] = some [] by rw [rDec.eq_def]] at h
  simpa using h
theorem PP_end (l T : Tx) (h : PP l l.length T) : pDec l = some T := by
  rw [PP, List.drop_length, show pDec [] = some [] by rw [pDec.eq_def]] at h
  simpa using h

theorem rDec_cons (c : UInt8) (r : Tx) : rDec (c :: r) = if okB c then (rDec r).map (c :: ·)
    else if c = 37 then
      match r with
      | x :: y :: r2 =>
        match hexV x, hexV y with
        | some a, some b => if okB (UInt8.ofNat (16 * a + b)) then none else (rDec r2).map (UInt8.ofNat (16 * a + b) :: ·)
        | _, _ => none
      | _ => none
    else none := by rw [rDec.eq_def]; rfl
theorem pDec_cons (c : UInt8) (r : Tx) : pDec (c :: r) = if c = 37 then
      match r with
      | x :: y :: r2 =>
        match hexV x, hexV y with
        | some a, some b => (pDec r2).map (UInt8.ofNat (16 * a + b) :: ·)
        | _, _ => none
      | _ => none
    else (pDec r).map (c :: ·) := by rw [pDec.eq_def]; rfl
theorem okB_37' : okB 37 = false := rfl

theorem RR_ok (l T : Tx) (k : Nat) (c : UInt8) (h : RR l k T) (hc : l[k]? = some c) (ho : okB c = true) : RR l (k + 1) (T ++ [c]) := by
  rw [RR, drop_at l k c hc, rDec_cons] at h
  simp only [ho, if_true] at h
  rw [RR, h, map_cons]
theorem RR_bad (l T : Tx) (k : Nat) (c : UInt8) (h : RR l k T) (hc : l[k]? = some c) (ho : okB c = false) (h37 : c ≠ 37) : rDec l = none := by
  rw [RR, drop_at l k c hc, rDec_cons] at h
  simp only [ho, h37, Bool.false_eq_true, if_false, Option.map_none] at h
  exact h
theorem RR_short (l T : Tx) (k : Nat) (c : UInt8) (h : RR l k T) (hc : l[k]? = some c) (ho : okB c = false) (hl : l.length < k + 3) : rDec l = none := by
  rw [RR, drop_at l k c hc, rDec_cons] at h
  have h2 : (l.drop (k + 1)).length < 2 := by rw [List.length_drop]; omega
  match hd : l.drop (k + 1), h2 with
  | [], _ => rw [hd] at h; simp only [ho, Bool.false_eq_true, if_false, ite_self, Option.map_none] at h; exact h
  | [x], _ => rw [hd] at h; simp only [ho, Bool.false_eq_true, if_false, ite_self, Option.map_none] at h; exact h
  | x :: y :: r, h2 => simp at h2; omega
theorem RR_hex (l T : Tx) (k : Nat) (x y : UInt8) (h : RR l k T) (hc : l[k]? = some 37) (hx : l[k + 1]? = some x) (hy : l[k + 2]? = some y) :
    rDec l = (match hexV x, hexV y with
      | some a, some b => if okB (UInt8.ofNat (16 * a + b)) then none else (rDec (l.drop (k + 3))).map (UInt8.ofNat (16 * a + b) :: ·)
      | _, _ => none).map (T ++ ·) := by
  rw [RR, drop_at l k 37 hc, drop_at l (k + 1) x hx, drop_at l (k + 2) y hy, rDec_cons] at h
  simp only [okB_37', Bool.false_eq_true, if_false, if_true] at h
  exact h
theorem RR_bad1 (l T : Tx) (k : Nat) (x y : UInt8) (h : RR l k T) (hc : l[k]? = some 37) (hx : l[k + 1]? = some x) (hy : l[k + 2]? = some y) (hb : hexV x = none ∨ hexV y = none) : rDec l = none := by
  rw [RR_hex l T k x y h hc hx hy]
  rcases hb with hb | hb
  · rw [hb]; rfl
  · rw [hb]; cases hexV x <;> rfl
theorem RR_bad3 (l T : Tx) (k : Nat) (x y : UInt8) (a b : Nat) (h : RR l k T) (hc : l[k]? = some 37) (hx : l[k + 1]? = some x) (hy : l[k + 2]? = some y) (ha : hexV x = some a) (hb : hexV y = some b) (ho : okB (UInt8.ofNat (16 * a + b)) = true) : rDec l = none := by
  rw [RR_hex l T k x y h hc hx hy, ha, hb]
  simp only [ho, if_true, Option.map_none]
theorem RR_good (l T : Tx) (k : Nat) (x y : UInt8) (a b : Nat) (h : RR l k T) (hc : l[k]? = some 37) (hx : l[k + 1]? = some x) (hy : l[k + 2]? = some y) (ha : hexV x = some a) (hb : hexV y = some b) (ho : okB (UInt8.ofNat (16 * a + b)) = false) : RR l (k + 3) (T ++ [UInt8.ofNat (16 * a + b)]) := by
  rw [RR, RR_hex l T k x y h hc hx hy, ha, hb]
  simp only [ho, Bool.false_eq_true, if_false]
  exact map_cons _ _ _

theorem PP_plain (l T : Tx) (k : Nat) (c : UInt8) (h : PP l k T) (hc : l[k]? = some c) (h37 : c ≠ 37) : PP l (k + 1) (T ++ [c]) := by
  rw [PP, drop_at l k c hc, pDec_cons] at h
  simp only [h37, if_false] at h
  rw [PP, h, map_cons]
theorem PP_short (l T : Tx) (k : Nat) (h : PP l k T) (hc : l[k]? = some 37) (hl : l.length < k + 3) : pDec l = none := by
  rw [PP, drop_at l k 37 hc, pDec_cons] at h
  have h2 : (l.drop (k + 1)).length < 2 := by rw [List.length_drop]; omega
  match hd : l.drop (k + 1), h2 with
  | [], _ => rw [hd] at h; simp only [if_true, Option.map_none] at h; exact h
  | [x], _ => rw [hd] at h; simp only [if_true, Option.map_none] at h; exact h
  | x :: y :: r, h2 => simp at h2; omega
theorem PP_hex (l T : Tx) (k : Nat) (x y : UInt8) (h : PP l k T) (hc : l[k]? = some 37) (hx : l[k + 1]? = some x) (hy : l[k + 2]? = some y) :
    pDec l = (match hexV x, hexV y with
      | some a, some b => (pDec (l.drop (k + 3))).map (UInt8.ofNat (16 * a + b) :: ·)
      | _, _ => none).map (T ++ ·) := by
  rw [PP, drop_at l k 37 hc, drop_at l (k + 1) x hx, drop_at l (k + 2) y hy, pDec_cons] at h
  simp only [if_true] at h
  exact h
theorem PP_bad (l T : Tx) (k : Nat) (x y : UInt8) (h : PP l k T) (hc : l[k]? = some 37) (hx : l[k + 1]? = some x) (hy : l[k + 2]? = some y) (hb : hexV x = none ∨ hexV y = none) : pDec l = none := by
  rw [PP_hex l T k x y h hc hx hy]
  rcases hb with hb | hb
  · rw [hb]; rfl
  · rw [hb]; cases hexV x <;> rfl
theorem PP_good (l T : Tx) (k : Nat) (x y : UInt8) (a b : Nat) (h : PP l k T) (hc : l[k]? = some 37) (hx : l[k + 1]? = some x) (hy : l[k + 2]? = some y) (ha : hexV x = some a) (hb : hexV y = some b) : PP l (k + 3) (T ++ [UInt8.ofNat (16 * a + b)]) := by
  rw [PP, PP_hex l T k x y h hc hx hy, ha, hb]
  exact map_cons _ _ _
theorem hex_nat (a b : Nat) (ha : a < 16) (hb : b < 16) : (UInt8.ofNat (16 * a + b)).toNat = 16 * a + b := by
  rw [UInt8.toNat_ofNat']; omega
end Go.Proofs.YtbcfbdkacnnkgaaDoor
