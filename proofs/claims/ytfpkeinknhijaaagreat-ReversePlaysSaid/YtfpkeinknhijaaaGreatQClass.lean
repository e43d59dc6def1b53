/- A region that draws its order, walked once over a class of worlds: calls may write, if each leaves a world of the class and yields one value. -/
import Derived.Deep.Quiet
import Derived.BigQuiet
namespace Go.Proofs.YtfpkeinknhijaaaGreat
set_option linter.unusedVariables false

/-- A world of a class (a structure of its own: simp has no law about it). -/
structure InC (C : World → Prop) where
  w : World
  ok : C w
section
variable {P : Program} {W : World} {C : World → Prop}
theorem wp_region_class {id : Nat} {Q : Exit → Act → World → Prop} {a : Act} {l : List Oper} (hm : P.follows .mixedOrders = true) (hB : Region.lexB .any l.toArray = true) (hC : C W.drew)
    (h : wpQuiet P l.toArray (fun w' => ∃ u : InC C, w' = u.w) (fun a' => ∀ w', C w' → Q .normal a' w') l a) : (Code.region id l.toArray true).wp P Q a W :=
  wp_region_quiet (C := fun w' => ∃ u : InC C, w' = u.w) hm hB ⟨⟨_, hC⟩, rfl⟩ (by
    have h2 : (fun a' => ∀ w', C w' → Q .normal a' w') = (fun a' => ∀ w', (∃ u : InC C, w' = u.w) → Q .normal a' w') := by
      funext a'
      apply propext
      constructor
      · rintro h w' ⟨u, rfl⟩
        exact h _ u.ok
      · intro h w' hw
        exact h w' ⟨⟨w', hw⟩, rfl⟩
    rw [← h2]
    simpa using h)
/-- A call in any world of the class. -/
theorem class_call {f : FuncId} {args : Array Value} {v : Value} {u : InC C} (h : Calls P f args u.w fun e w'' => e = .returned v ∧ C w'') :
    Calls P f args u.w fun e w'' => e = .returned v ∧ ∃ u' : InC C, w'' = u'.w :=
  h.mono fun e w2 h => ⟨h.1, ⟨_, h.2⟩, rfl⟩
end
end Go.Proofs.YtfpkeinknhijaaaGreat
