/-
  DERIVED. GIVEN WITH THE SEED: THE CARDS: each row of YtdkbcboajjilfaaDoorRows.lean that lists a variable, with what it lists TIED to the program's text (the seventh form; the later family's looks); each row that meets fmt, with fmt's text TOLD by the authors' own Lean function (tested against real Go, not proved from fmt's source: count such statements apart). THE CARD IS WHAT COUNTS. Prove the row's statement (the work); the ties are given (YtdkbcboajjilfaaDoorTie.lean); close each card by the builder's one call (the guide's Derived/Test/ToyasCard.lean, 'card_holds'). Laid BY PROGRAM, IN A SANDBOX (cutbox-door.mjs). By AI agents, Wed Nov 11 2026. No macro, syntax, notation, axiom, sorry.
-/
import Derived.Test.YtdkbcboajjilfaaDoorRows
import GoSem.ClaimSeven
namespace Go.Proofs.YtdkbcboajjilfaaDoor
namespace Rows

/-- THE TIED CARD OF 'tagcachelaw03.ClockSums'. -/
def clockSumsCard : Claim7 := { stood := { row := clockSumsRow, standIns := [], harness := (true, "2691e79a299fa9a4c9380701ed05bbacf45927ba289ec4babd6ece2b08839428"), looks := true }, kinds := [], alts := [], laidByText := true, laidKinds := [.data, .data, .data, .sentinel, .sentinel], laidTests := true, laidLooks := .later }
def ClockSumsCardSaid : Prop := Claim7.holds Tryd.pinned (.plain (OpenSpec.ofChange clockSumsSpec)) clockSumsCard

/-- THE TIED CARD OF 'tagcachelaw03.ClockMarks'. -/
def clockMarksCard : Claim7 := { stood := { row := clockMarksRow, standIns := [], harness := (true, "2691e79a299fa9a4c9380701ed05bbacf45927ba289ec4babd6ece2b08839428"), looks := true }, kinds := [], alts := [], laidByText := true, laidKinds := [.data, .data, .data, .sentinel, .sentinel], laidTests := true, laidLooks := .later }
def ClockMarksCardSaid : Prop := Claim7.holds Tryd.pinned (.plain (OpenSpec.ofChange clockMarksSpec)) clockMarksCard

/-- THE TIED CARD OF 'tagcachelaw03.ClockTexts'. -/
def clockTextsCard : Claim7 := { stood := { row := clockTextsRow, standIns := [], harness := (true, "2691e79a299fa9a4c9380701ed05bbacf45927ba289ec4babd6ece2b08839428"), looks := true }, kinds := [], alts := [], laidByText := true, laidKinds := [.data, .data, .data, .sentinel, .sentinel], laidTests := true, laidLooks := .later }
def ClockTextsCardSaid : Prop := Claim7.holds Tryd.pinned (.plain (OpenSpec.ofChange clockTextsSpec)) clockTextsCard

/-- THE TIED CARD OF 'tagcachelaw03.ClockSteps'. -/
def clockStepsCard : Claim7 := { stood := { row := clockStepsRow, standIns := [], harness := (true, "2691e79a299fa9a4c9380701ed05bbacf45927ba289ec4babd6ece2b08839428"), looks := true }, kinds := [], alts := [], laidByText := true, laidKinds := [.data, .data, .data, .sentinel, .sentinel], laidTests := true, laidLooks := .later }
def ClockStepsCardSaid : Prop := Claim7.holds Tryd.pinned (.plain (OpenSpec.ofChange clockStepsSpec)) clockStepsCard

/-- THE TIED CARD OF 'tagcachelaw03.ClockHolds'. -/
def clockHoldsCard : Claim7 := { stood := { row := clockHoldsRow, standIns := [], harness := (true, "2691e79a299fa9a4c9380701ed05bbacf45927ba289ec4babd6ece2b08839428"), looks := true }, kinds := [], alts := [], laidByText := true, laidKinds := [.data, .data, .data, .sentinel, .sentinel], laidTests := true, laidLooks := .later }
def ClockHoldsCardSaid : Prop := Claim7.holds Tryd.pinned (.plain (OpenSpec.ofChange clockHoldsSpec)) clockHoldsCard

/-- THE SECOND FORM's CARD OF 'tagcachelaw03.ClockSums'. -/
def clockSumsUptoCard : Claim7 := { stood := { row := clockSumsUptoRow, standIns := [], harness := (true, "2691e79a299fa9a4c9380701ed05bbacf45927ba289ec4babd6ece2b08839428"), looks := true }, kinds := [], alts := [], laidByText := true, laidKinds := [.data, .data, .data, .sentinel, .sentinel], laidTests := true, laidLooks := .later }
def ClockSumsUptoCardSaid : Prop := Claim7.holds Tryd.pinned (.plain (OpenSpec.upto clockSumsSpec)) clockSumsUptoCard

/-- THE SECOND FORM's CARD OF 'tagcachelaw03.ClockMarks'. -/
def clockMarksUptoCard : Claim7 := { stood := { row := clockMarksUptoRow, standIns := [], harness := (true, "2691e79a299fa9a4c9380701ed05bbacf45927ba289ec4babd6ece2b08839428"), looks := true }, kinds := [], alts := [], laidByText := true, laidKinds := [.data, .data, .data, .sentinel, .sentinel], laidTests := true, laidLooks := .later }
def ClockMarksUptoCardSaid : Prop := Claim7.holds Tryd.pinned (.plain (OpenSpec.upto clockMarksSpec)) clockMarksUptoCard

/-- THE SECOND FORM's CARD OF 'tagcachelaw03.ClockTexts'. -/
def clockTextsUptoCard : Claim7 := { stood := { row := clockTextsUptoRow, standIns := [], harness := (true, "2691e79a299fa9a4c9380701ed05bbacf45927ba289ec4babd6ece2b08839428"), looks := true }, kinds := [], alts := [], laidByText := true, laidKinds := [.data, .data, .data, .sentinel, .sentinel], laidTests := true, laidLooks := .later }
def ClockTextsUptoCardSaid : Prop := Claim7.holds Tryd.pinned (.plain (OpenSpec.upto clockTextsSpec)) clockTextsUptoCard

/-- THE SECOND FORM's CARD OF 'tagcachelaw03.ClockSteps'. -/
def clockStepsUptoCard : Claim7 := { stood := { row := clockStepsUptoRow, standIns := [], harness := (true, "2691e79a299fa9a4c9380701ed05bbacf45927ba289ec4babd6ece2b08839428"), looks := true }, kinds := [], alts := [], laidByText := true, laidKinds := [.data, .data, .data, .sentinel, .sentinel], laidTests := true, laidLooks := .later }
def ClockStepsUptoCardSaid : Prop := Claim7.holds Tryd.pinned (.plain (OpenSpec.upto clockStepsSpec)) clockStepsUptoCard

/-- THE SECOND FORM's CARD OF 'tagcachelaw03.ClockHolds'. -/
def clockHoldsUptoCard : Claim7 := { stood := { row := clockHoldsUptoRow, standIns := [], harness := (true, "2691e79a299fa9a4c9380701ed05bbacf45927ba289ec4babd6ece2b08839428"), looks := true }, kinds := [], alts := [], laidByText := true, laidKinds := [.data, .data, .data, .sentinel, .sentinel], laidTests := true, laidLooks := .later }
def ClockHoldsUptoCardSaid : Prop := Claim7.holds Tryd.pinned (.plain (OpenSpec.upto clockHoldsSpec)) clockHoldsUptoCard
end Rows
end Go.Proofs.YtdkbcboajjilfaaDoor
