/- A region that draws its order: a head that only reads, walked once in the order of the text, and a tail in one forced order. -/
import Derived.Deep.Quiet
import Derived.StillTail
namespace Go.Proofs.YtfpkeinknhijaaaGreat
set_option linter.unusedVariables false

section
variable {P : Program} {ops : Array Oper} {W : World}
theorem still_of_quiet1 {o : Oper} {a : Act} {K : Act → Prop} (hh : o.quiet P a (fun w' => w' = W) K) : o.still P a W K := by
  obtain ⟨v, h1, h2⟩ := hh
  have h3 := h1 W rfl
  unfold Oper.quietAt at h3
  unfold Oper.still
  generalize (execOp a.eval o).run P W = r at *
  cases r with
  | ok n w' =>
    cases n <;> simp only [Oper.quietUpon] at h3 <;> simp only [Oper.stillUpon]
    case value u =>
      obtain ⟨e1, e2⟩ := h3
      rw [e2]
      exact ⟨e1, h2⟩
    case skip =>
      obtain ⟨e1, e2⟩ := h3
      rw [← e2]
      exact ⟨e1, h2⟩
    case enter f args =>
      obtain ⟨e1, hc⟩ := h3
      exact ⟨e1, v, hc, h2⟩
    all_goals exact h3.elim
  | halt x w' => simp only [Oper.quietUpon] at h3
theorem still_of_quiet {Q : Act → Prop} : ∀ {l : List Oper} {a : Act}, wpQuiet P ops (fun w' => w' = W) Q l a → wpStill P ops W Q l a
  | [], a, h => h
  | o :: l, a, h => by
    unfold wpQuiet at h
    unfold wpStill
    by_cases hw : Region.wanted o (yielded ops a.tmps) = true
    · rw [if_pos hw] at h ⊢
      exact Oper.still_mono (fun a h => still_of_quiet h) (still_of_quiet1 h)
    · rw [if_neg hw] at h ⊢
      exact still_of_quiet h
theorem wp_region_qtail {id : Nat} {Q : Exit → Act → World → Prop} {a : Act} {w : World} {l : List Oper} (n : Nat) (hm : P.follows .mixedOrders = true) (hB : Region.lexTailB .any l.toArray n = true)
    (h : wpQuiet P l.toArray (fun w' => w' = w.drew) (fun a' => wpList P l.toArray Q (l.drop n) a' w.drew) (l.take n) a) : (Code.region id l.toArray true).wp P Q a w :=
  wp_region_still_tail n hm hB (still_of_quiet h)
end
end Go.Proofs.YtfpkeinknhijaaaGreat
