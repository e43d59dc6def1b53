/-
  DERIVED. GIVEN WITH THE SEED: THE CARDS: each row of YtjiefmihodfgpaaDoorRows.lean that lists a variable, with what it lists TIED to the program's text (the seventh form; the later family's looks); each row that meets fmt, with fmt's text TOLD by the authors' own Lean function (tested against real Go, not proved from fmt's source: count such statements apart). THE CARD IS WHAT COUNTS. Prove the row's statement (the work); the ties are given (YtjiefmihodfgpaaDoorTie.lean); close each card by the builder's one call (the guide's Derived/Test/ToyasCard.lean, 'card_holds'). Laid BY PROGRAM, IN A SANDBOX (cutbox-door.mjs). By AI agents, Wed Nov 11 2026. No macro, syntax, notation, axiom, sorry.
-/
import Derived.Test.YtjiefmihodfgpaaDoorRows
import GoSem.ClaimSeven
namespace Go.Proofs.YtjiefmihodfgpaaDoor
namespace Rows

/-- THE TIED CARD OF 'tagcachelaw25.StatsSums'. -/
def statsSumsCard : Claim7 := { stood := { row := statsSumsRow, standIns := [], harness := (true, "04f480ca5acc5ba419b5e39827d5abd1088dd8c22691b7275be22d6a9fe53ed7"), looks := true }, kinds := [], alts := [], laidByText := true, laidKinds := [.data, .data, .data, .data, .data], laidTests := true, laidLooks := .later }
def StatsSumsCardSaid : Prop := Claim7.holds Tryd.pinned (.plain (OpenSpec.ofChange statsSumsSpec)) statsSumsCard

/-- THE TIED CARD OF 'tagcachelaw25.StatsHolds'. -/
def statsHoldsCard : Claim7 := { stood := { row := statsHoldsRow, standIns := [], harness := (true, "04f480ca5acc5ba419b5e39827d5abd1088dd8c22691b7275be22d6a9fe53ed7"), looks := true }, kinds := [], alts := [], laidByText := true, laidKinds := [.data, .data, .data, .data, .data], laidTests := true, laidLooks := .later }
def StatsHoldsCardSaid : Prop := Claim7.holds Tryd.pinned (.plain (OpenSpec.ofChange statsHoldsSpec)) statsHoldsCard

/-- THE TIED CARD OF 'tagcachelaw25.StatsNil'. -/
def statsNilCard : Claim7 := { stood := { row := statsNilRow, standIns := [], harness := (true, "04f480ca5acc5ba419b5e39827d5abd1088dd8c22691b7275be22d6a9fe53ed7"), looks := true }, kinds := [], alts := [], laidByText := true, laidKinds := [.data, .data, .data, .data, .data], laidTests := true, laidLooks := .later }
def StatsNilCardSaid : Prop := Claim7.holds Tryd.pinned (.plain (OpenSpec.ofChange statsNilSpec)) statsNilCard

/-- THE TIED CARD OF 'tagcachelaw25.StatsNotes'. -/
def statsNotesCard : Claim7 := { stood := { row := statsNotesRow, standIns := [], harness := (true, "04f480ca5acc5ba419b5e39827d5abd1088dd8c22691b7275be22d6a9fe53ed7"), looks := true }, kinds := [], alts := [], laidByText := true, laidKinds := [.data, .data, .data, .data, .data], laidTests := true, laidLooks := .later }
def StatsNotesCardSaid : Prop := Claim7.holds Tryd.pinned (.plain (OpenSpec.ofChange statsNotesSpec)) statsNotesCard

/-- THE TIED CARD OF 'tagcachelaw25.StatsTexts'. -/
def statsTextsCard : Claim7 := { stood := { row := statsTextsRow, standIns := [], harness := (true, "04f480ca5acc5ba419b5e39827d5abd1088dd8c22691b7275be22d6a9fe53ed7"), looks := true }, kinds := [], alts := [], laidByText := true, laidKinds := [.data, .data, .data, .sentinel, .sentinel, .data, .data], laidTests := true, laidLooks := .later }
def StatsTextsCardSaid : Prop := Claim7.holds Tryd.pinned (.plain (OpenSpec.ofChange statsTextsSpec)) statsTextsCard

/-- THE SECOND FORM's CARD OF 'tagcachelaw25.StatsSums'. -/
def statsSumsUptoCard : Claim7 := { stood := { row := statsSumsUptoRow, standIns := [], harness := (true, "04f480ca5acc5ba419b5e39827d5abd1088dd8c22691b7275be22d6a9fe53ed7"), looks := true }, kinds := [], alts := [], laidByText := true, laidKinds := [.data, .data, .data, .data, .data], laidTests := true, laidLooks := .later }
def StatsSumsUptoCardSaid : Prop := Claim7.holds Tryd.pinned (.plain (OpenSpec.upto statsSumsSpec)) statsSumsUptoCard

/-- THE SECOND FORM's CARD OF 'tagcachelaw25.StatsHolds'. -/
def statsHoldsUptoCard : Claim7 := { stood := { row := statsHoldsUptoRow, standIns := [], harness := (true, "04f480ca5acc5ba419b5e39827d5abd1088dd8c22691b7275be22d6a9fe53ed7"), looks := true }, kinds := [], alts := [], laidByText := true, laidKinds := [.data, .data, .data, .data, .data], laidTests := true, laidLooks := .later }
def StatsHoldsUptoCardSaid : Prop := Claim7.holds Tryd.pinned (.plain (OpenSpec.upto statsHoldsSpec)) statsHoldsUptoCard

/-- THE SECOND FORM's CARD OF 'tagcachelaw25.StatsNil'. -/
def statsNilUptoCard : Claim7 := { stood := { row := statsNilUptoRow, standIns := [], harness := (true, "04f480ca5acc5ba419b5e39827d5abd1088dd8c22691b7275be22d6a9fe53ed7"), looks := true }, kinds := [], alts := [], laidByText := true, laidKinds := [.data, .data, .data, .data, .data], laidTests := true, laidLooks := .later }
def StatsNilUptoCardSaid : Prop := Claim7.holds Tryd.pinned (.plain (OpenSpec.upto statsNilSpec)) statsNilUptoCard

/-- THE SECOND FORM's CARD OF 'tagcachelaw25.StatsNotes'. -/
def statsNotesUptoCard : Claim7 := { stood := { row := statsNotesUptoRow, standIns := [], harness := (true, "04f480ca5acc5ba419b5e39827d5abd1088dd8c22691b7275be22d6a9fe53ed7"), looks := true }, kinds := [], alts := [], laidByText := true, laidKinds := [.data, .data, .data, .data, .data], laidTests := true, laidLooks := .later }
def StatsNotesUptoCardSaid : Prop := Claim7.holds Tryd.pinned (.plain (OpenSpec.upto statsNotesSpec)) statsNotesUptoCard

/-- THE SECOND FORM's CARD OF 'tagcachelaw25.StatsTexts'. -/
def statsTextsUptoCard : Claim7 := { stood := { row := statsTextsUptoRow, standIns := [], harness := (true, "04f480ca5acc5ba419b5e39827d5abd1088dd8c22691b7275be22d6a9fe53ed7"), looks := true }, kinds := [], alts := [], laidByText := true, laidKinds := [.data, .data, .data, .sentinel, .sentinel, .data, .data], laidTests := true, laidLooks := .later }
def StatsTextsUptoCardSaid : Prop := Claim7.holds Tryd.pinned (.plain (OpenSpec.upto statsTextsSpec)) statsTextsUptoCard
end Rows
end Go.Proofs.YtjiefmihodfgpaaDoor
