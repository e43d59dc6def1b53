/-
  DERIVED. GIVEN WITH THE SEED: THE CARDS: each row of YtbcfbdkacnnkgaaDoorRows.lean that lists a variable, with what it lists TIED to the program's text (the seventh form; the later family's looks); each row that meets fmt, with fmt's text TOLD by the authors' own Lean function (tested against real Go, not proved from fmt's source: count such statements apart). THE CARD IS WHAT COUNTS. Prove the row's statement (the work); the ties are given (YtbcfbdkacnnkgaaDoorTie.lean); close each card by the builder's one call (the guide's Derived/Test/ToyasCard.lean, 'card_holds'). Laid BY PROGRAM, IN A SANDBOX (cutbox-door.mjs). By AI agents, Wed Nov 11 2026. No macro, syntax, notation, axiom, sorry.
-/
import Derived.Test.YtbcfbdkacnnkgaaDoorRows
import GoSem.ClaimSeven
namespace Go.Proofs.YtbcfbdkacnnkgaaDoor
namespace Rows

/-- THE TIED CARD OF 'tagcachelaw02.KeyNames'. -/
def keyNamesCard : Claim7 := { stood := { row := keyNamesRow, standIns := [], harness := (true, "d5facfadcb1da2b0c5f46886ecf7ba80f7a6615eeb28a7f37d66b4f107407a33"), looks := false }, kinds := [], alts := [], laidByText := true, laidKinds := [.data, .widerDeep, .pinned], laidTests := true, laidLooks := .later }
def KeyNamesCardSaid : Prop := Claim7.holds Tryd.pinned (.plain (OpenSpec.ofChange keyNamesSpec)) keyNamesCard

/-- THE TIED CARD OF 'tagcachelaw02.KeySegments'. -/
def keySegmentsCard : Claim7 := { stood := { row := keySegmentsRow, standIns := [], harness := (true, "d5facfadcb1da2b0c5f46886ecf7ba80f7a6615eeb28a7f37d66b4f107407a33"), looks := false }, kinds := [], alts := [], laidByText := true, laidKinds := [.data, .widerDeep, .pinned], laidTests := true, laidLooks := .later }
def KeySegmentsCardSaid : Prop := Claim7.holds Tryd.pinned (.plain (OpenSpec.ofChange keySegmentsSpec)) keySegmentsCard

/-- THE TIED CARD OF 'tagcachelaw02.KeyJoins'. -/
def keyJoinsCard : Claim7 := { stood := { row := keyJoinsRow, standIns := [], harness := (true, "d5facfadcb1da2b0c5f46886ecf7ba80f7a6615eeb28a7f37d66b4f107407a33"), looks := false }, kinds := [], alts := [], laidByText := true, laidKinds := [.data, .widerDeep, .pinned], laidTests := true, laidLooks := .later }
def KeyJoinsCardSaid : Prop := Claim7.holds Tryd.pinned (.plain (OpenSpec.ofChange keyJoinsSpec)) keyJoinsCard

/-- THE TIED CARD OF 'tagcachelaw02.KeyTags'. -/
def keyTagsCard : Claim7 := { stood := { row := keyTagsRow, standIns := [], harness := (true, "d5facfadcb1da2b0c5f46886ecf7ba80f7a6615eeb28a7f37d66b4f107407a33"), looks := false }, kinds := [], alts := [], laidByText := true, laidKinds := [.data, .widerDeep, .pinned], laidTests := true, laidLooks := .later }
def KeyTagsCardSaid : Prop := Claim7.holds Tryd.pinned (.plain (OpenSpec.ofChange keyTagsSpec)) keyTagsCard

/-- THE TIED CARD OF 'tagcachelaw02.KeyTexts'. -/
def keyTextsCard : Claim7 := { stood := { row := keyTextsRow, standIns := [], harness := (true, "d5facfadcb1da2b0c5f46886ecf7ba80f7a6615eeb28a7f37d66b4f107407a33"), looks := false }, kinds := [], alts := [], laidByText := true, laidKinds := [.data, .widerDeep, .pinned], laidTests := true, laidLooks := .later }
def KeyTextsCardSaid : Prop := Claim7.holds Tryd.pinned (.plain (OpenSpec.ofChange keyTextsSpec)) keyTextsCard

/-- THE TIED CARD OF 'tagcachelaw02.KeyParses'. -/
def keyParsesCard : Claim7 := { stood := { row := keyParsesRow, standIns := [], harness := (true, "d5facfadcb1da2b0c5f46886ecf7ba80f7a6615eeb28a7f37d66b4f107407a33"), looks := false }, kinds := [], alts := [], laidByText := true, laidKinds := [.data, .widerDeep, .pinned], laidTests := true, laidLooks := .later }
def KeyParsesCardSaid : Prop := Claim7.holds Tryd.pinned (.plain (OpenSpec.ofChange keyParsesSpec)) keyParsesCard

/-- THE TIED CARD OF 'tagcachelaw02.KeyHolds'. -/
def keyHoldsCard : Claim7 := { stood := { row := keyHoldsRow, standIns := [], harness := (true, "d5facfadcb1da2b0c5f46886ecf7ba80f7a6615eeb28a7f37d66b4f107407a33"), looks := false }, kinds := [], alts := [], laidByText := true, laidKinds := [.data, .widerDeep, .pinned], laidTests := true, laidLooks := .later }
def KeyHoldsCardSaid : Prop := Claim7.holds Tryd.pinned (.plain (OpenSpec.ofChange keyHoldsSpec)) keyHoldsCard

/-- THE SECOND FORM's CARD OF 'tagcachelaw02.KeyNames'. -/
def keyNamesUptoCard : Claim7 := { stood := { row := keyNamesUptoRow, standIns := [], harness := (true, "d5facfadcb1da2b0c5f46886ecf7ba80f7a6615eeb28a7f37d66b4f107407a33"), looks := false }, kinds := [], alts := [], laidByText := true, laidKinds := [.data, .widerDeep, .pinned], laidTests := true, laidLooks := .later }
def KeyNamesUptoCardSaid : Prop := Claim7.holds Tryd.pinned (.plain (OpenSpec.upto keyNamesSpec)) keyNamesUptoCard

/-- THE SECOND FORM's CARD OF 'tagcachelaw02.KeySegments'. -/
def keySegmentsUptoCard : Claim7 := { stood := { row := keySegmentsUptoRow, standIns := [], harness := (true, "d5facfadcb1da2b0c5f46886ecf7ba80f7a6615eeb28a7f37d66b4f107407a33"), looks := false }, kinds := [], alts := [], laidByText := true, laidKinds := [.data, .widerDeep, .pinned], laidTests := true, laidLooks := .later }
def KeySegmentsUptoCardSaid : Prop := Claim7.holds Tryd.pinned (.plain (OpenSpec.upto keySegmentsSpec)) keySegmentsUptoCard

/-- THE SECOND FORM's CARD OF 'tagcachelaw02.KeyJoins'. -/
def keyJoinsUptoCard : Claim7 := { stood := { row := keyJoinsUptoRow, standIns := [], harness := (true, "d5facfadcb1da2b0c5f46886ecf7ba80f7a6615eeb28a7f37d66b4f107407a33"), looks := false }, kinds := [], alts := [], laidByText := true, laidKinds := [.data, .widerDeep, .pinned], laidTests := true, laidLooks := .later }
def KeyJoinsUptoCardSaid : Prop := Claim7.holds Tryd.pinned (.plain (OpenSpec.upto keyJoinsSpec)) keyJoinsUptoCard

/-- THE SECOND FORM's CARD OF 'tagcachelaw02.KeyTags'. -/
def keyTagsUptoCard : Claim7 := { stood := { row := keyTagsUptoRow, standIns := [], harness := (true, "d5facfadcb1da2b0c5f46886ecf7ba80f7a6615eeb28a7f37d66b4f107407a33"), looks := false }, kinds := [], alts := [], laidByText := true, laidKinds := [.data, .widerDeep, .pinned], laidTests := true, laidLooks := .later }
def KeyTagsUptoCardSaid : Prop := Claim7.holds Tryd.pinned (.plain (OpenSpec.upto keyTagsSpec)) keyTagsUptoCard

/-- THE SECOND FORM's CARD OF 'tagcachelaw02.KeyTexts'. -/
def keyTextsUptoCard : Claim7 := { stood := { row := keyTextsUptoRow, standIns := [], harness := (true, "d5facfadcb1da2b0c5f46886ecf7ba80f7a6615eeb28a7f37d66b4f107407a33"), looks := false }, kinds := [], alts := [], laidByText := true, laidKinds := [.data, .widerDeep, .pinned], laidTests := true, laidLooks := .later }
def KeyTextsUptoCardSaid : Prop := Claim7.holds Tryd.pinned (.plain (OpenSpec.upto keyTextsSpec)) keyTextsUptoCard

/-- THE SECOND FORM's CARD OF 'tagcachelaw02.KeyParses'. -/
def keyParsesUptoCard : Claim7 := { stood := { row := keyParsesUptoRow, standIns := [], harness := (true, "d5facfadcb1da2b0c5f46886ecf7ba80f7a6615eeb28a7f37d66b4f107407a33"), looks := false }, kinds := [], alts := [], laidByText := true, laidKinds := [.data, .widerDeep, .pinned], laidTests := true, laidLooks := .later }
def KeyParsesUptoCardSaid : Prop := Claim7.holds Tryd.pinned (.plain (OpenSpec.upto keyParsesSpec)) keyParsesUptoCard

/-- THE SECOND FORM's CARD OF 'tagcachelaw02.KeyHolds'. -/
def keyHoldsUptoCard : Claim7 := { stood := { row := keyHoldsUptoRow, standIns := [], harness := (true, "d5facfadcb1da2b0c5f46886ecf7ba80f7a6615eeb28a7f37d66b4f107407a33"), looks := false }, kinds := [], alts := [], laidByText := true, laidKinds := [.data, .widerDeep, .pinned], laidTests := true, laidLooks := .later }
def KeyHoldsUptoCardSaid : Prop := Claim7.holds Tryd.pinned (.plain (OpenSpec.upto keyHoldsSpec)) keyHoldsUptoCard
end Rows
end Go.Proofs.YtbcfbdkacnnkgaaDoor
