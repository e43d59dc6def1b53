/- Contracts of Word, of the reference's Next, of parses and of known (the chapter's examples). -/
import Derived.Test.YtdkbcboajjilfaaDoorClockD
namespace Go.Proofs.YtdkbcboajjilfaaDoor
set_option linter.unusedVariables false
open Go.ChangeShapes Go.WideShapes Go.ChangeAt Go.RowKit

theorem clockWord_any (m : Int) (w : World) :
    Calls Tryd.prog 23 #[.int .i64 m] w fun e w' => e = .returned (.string ⟨(ckWord m).toArray⟩) ∧ w = w' := by
  rcases ckWord_cases m with ⟨hm, h⟩ | ⟨hm, h⟩ | ⟨hm, h⟩ | ⟨hm, h⟩
  case inr.inr.inr =>
    have h0 : (m == 0) = false := by rw [beq_eq_false_iff_ne]; omega
    have h1 : (m == 1) = false := by rw [beq_eq_false_iff_ne]; omega
    have h2 : (m == 2) = false := by rw [beq_eq_false_iff_ne]; omega
    have H := Lib.hid h
    clear h hm
    go_enter Tryd.func23, Tryd.ntmps23
    go_wp2
    go_ret
    exact ⟨by rw [H.out]; rfl, rfl⟩
  all_goals
    subst hm
    have H := Lib.hid h
    clear h
    go_enter Tryd.func23, Tryd.ntmps23
    go_wp2
    go_ret
    exact ⟨by rw [H.out]; rfl, rfl⟩

theorem refWord_any (m : Int) (w : World) :
    Calls Tryd.prog 24 #[.int .i64 m] w fun e w' => e = .returned (.string ⟨(ckWord m).toArray⟩) ∧ Below w.heap.size w w' := by
  rcases ckWord_cases m with ⟨hm, h⟩ | ⟨hm, h⟩ | ⟨hm, h⟩ | ⟨hm, h⟩
  case inr.inr.inr =>
    have H := Lib.hid h
    clear h
    rcases hm with hm | hm
    all_goals
      go_enter Tryd.func24, Tryd.ntmps24
      go_wp2
      go_ret
      exact ⟨by rw [H.out]; rfl, (Below.refl _ _).alloc (Nat.le_refl _) _⟩
  all_goals
    subst hm
    have H := Lib.hid h
    clear h
    go_enter Tryd.func24, Tryd.ntmps24
    go_wp2
    go_ret
    exact ⟨by rw [H.out]; rfl, (Below.refl _ _).alloc (Nat.le_refl _) _⟩

set_option maxHeartbeats 1000000 in
theorem parses_any (s : ByteArray) (hs : s.size ≤ 281474976710656) (t e : Int) (w : World) (hL : Laid w) :
    Calls Tryd.prog 22 #[.string s, .int .u64 t, .int .i64 e] w fun en w' => en = .returned (.bool (psB s.data.toList t e)) ∧ Below w.heap.size w w' := by
  unfold psB
  generalize hp : ckParse s.data.toList = p
  have HP := Lib.hid hp
  clear hp
  rcases Bool.eq_false_or_eq_true (p.1 == t) with h1 | h1 <;> rcases Bool.eq_false_or_eq_true (ckErr p.2 == e) with h2 | h2
  all_goals
    go_enter Tryd.func22, Tryd.ntmps22
    go_wp2_with (go_at_call 27; refine (clockParse_any s hs _ hL).mono ?_; rw [HP.out]; rintro e w1 ⟨rfl, hb1⟩)
    go_ret
    simp only [beq_iff_eq, beq_eq_false_iff_ne, ne_eq] at h1 h2
    exact ⟨by simp [h1, h2], hb1⟩

/-- Laid, and nothing turned since w0. -/
structure St (w0 w : World) : Prop where
  laid : Laid w
  bel : Below w0.heap.size w0 w

theorem St.refl {w : World} (h : Laid w) : St w w := ⟨h, Below.refl _ _⟩
theorem St.step {w0 w w' : World} (h : St w0 w) (hb : Below w.heap.size w w') : St w0 w' := ⟨h.laid.below hb, h.bel.trans (hb.mono h.bel.size)⟩


set_option maxHeartbeats 4000000 in
set_option maxRecDepth 100000 in
theorem known_any (w : World) (hL : Laid w) :
    Calls Tryd.prog 14 #[] w fun e w' => e = .returned (.bool true) ∧ Below w.heap.size w w' := by
  have a1 : ckAdd 5 7 = 12 := by decide +kernel
  have a2 : ckAdd 18446744073709551615 0 = 18446744073709551615 := by decide +kernel
  have a3 : ckAdd 5 18446744073709551615 = 18446744073709551615 := by decide +kernel
  have a4 : ckAdd 18446744073709551613 1 = 18446744073709551614 := by decide +kernel
  have a5 : ckAdd 18446744073709551613 2 = 18446744073709551615 := by decide +kernel
  have b1 : ckEff 9 4 = 9 := by decide +kernel
  have b2 : ckDue 5 5 = true := by decide +kernel
  have b3 : ckDue 6 5 = false := by decide +kernel
  have b4 : ckDue 18446744073709551615 18446744073709551615 = false := by decide +kernel
  have b5 : ckDue 5 18446744073709551615 = true := by decide +kernel
  have c1 : ckMark 9 10 18446744073709551615 3 = 1 := by decide +kernel
  have c2 : ckMark 10 10 18446744073709551615 3 = 0 := by decide +kernel
  have c3 : ckMark 9 20 7 3 = 2 := by decide +kernel
  have c4 : ckMark 10 20 7 3 = 0 := by decide +kernel
  have c5 : ckMark 6 20 7 3 = 1 := by decide +kernel
  have c6 : ckMark 7 20 7 0 = 0 := by decide +kernel
  have c7 : ckMark 50 18446744073709551615 7 18446744073709551615 = 2 := by decide +kernel
  have d1 : ckNext 6 20 7 3 = 7 := by decide +kernel
  have d2 : ckNext 7 20 7 3 = 10 := by decide +kernel
  have d3 : ckNext 10 20 7 3 = 18446744073709551615 := by decide +kernel
  have d4 : ckNext 3 5 7 3 = 5 := by decide +kernel
  have e1 : ckText 120 = [49, 50, 48] := by decide +kernel
  have e2 : ckText 18446744073709551615 = [110, 101, 118, 101, 114] := by decide +kernel
  have f1 : psB [110, 101, 118, 101, 114] 18446744073709551615 0 = true := by decide +kernel
  have f2 : psB [48, 48, 55] 0 6 = true := by decide +kernel
  have f3 : psB [49, 56, 52, 52, 54, 55, 52, 52, 48, 55, 51, 55, 48, 57, 53, 53, 49, 54, 49, 53] 0 6 = true := by decide +kernel
  have g1 : ckWord 2 = [115, 116, 97, 108, 101] := by decide +kernel
  have g2 : ckWord 3 = [] := by decide +kernel
  have hS := St.refl hL
  go_enter Tryd.func14, Tryd.ntmps14
  go_wp2_with (first
    | (go_at_call 8; refine (clockAdd_any _ _ (by omega) (by omega) (by omega) _).mono ?_; rintro e w' ⟨rfl, rfl⟩)
    | (go_at_call 10; refine (clockEff_any _ _ _).mono ?_; rintro e w' ⟨rfl, rfl⟩)
    | (go_at_call 12; refine (clockDue_any _ _ _).mono ?_; rintro e w' ⟨rfl, rfl⟩)
    | (go_at_call 15; refine (clockMark_any _ _ _ _ (by omega) (by omega) (by omega) _).mono ?_; rintro e w' ⟨rfl, rfl⟩)
    | (go_at_call 17; refine (clockNext_any _ _ _ _ (by omega) (by omega) (by omega) _).mono ?_; rintro e w' ⟨rfl, hb⟩; have hS' := St.step (by assumption) hb; clear hb)
    | (go_at_call 20; refine (clockText_any _ (by omega) (by omega) _ (St.laid (by assumption))).mono ?_; rintro e w' ⟨rfl, hb⟩; have hS' := St.step (by assumption) hb; clear hb)
    | (go_at_call 23; refine (clockWord_any _ _).mono ?_; rintro e w' ⟨rfl, rfl⟩)
    | (go_at_call 22; refine (parses_any _ (by decide) _ _ _ (St.laid (by assumption))).mono ?_; rintro e w' ⟨rfl, hb⟩; have hS' := St.step (by assumption) hb; clear hb))
  go_ret
  exact ⟨rfl, St.bel (by assumption)⟩
end Go.Proofs.YtdkbcboajjilfaaDoor
