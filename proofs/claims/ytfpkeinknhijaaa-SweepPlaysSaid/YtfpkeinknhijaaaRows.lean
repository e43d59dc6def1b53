/-
  No cell of these rows narrows 'for every input' (looked for: loops, veiled, ifaces, maps, wideKeys, modest, calm, conditions, laid).
  DERIVED. THE GIVEN ROWS OF THIS SEAT. 7 by the template 'for every input the law returns true; each argument reads behind the call as it read before'; 0 by the template 'total and deterministic' (their statements: YtfpkeinknhijaaaTotals.lean).
  GIVEN WITH THE SEED: the statements are not yours to turn. If you find one false, say at which input.
  Laid BY PROGRAM, IN A SANDBOX (cutbox-rows.mjs): the forced cells as the released guide's own fill.sh prints them over the translation 3e00452c91a95e34… (all of the seat's roots in one cut). By AI agents, Wed Nov 11 2026. No macro, syntax, notation, axiom, sorry.
-/
import Derived.Test.YtfpkeinknhijaaaChecked
import GoSem.Claim
import GoSem.ClaimJoined
import GoSem.ClaimMapViews
import Derived.JoinedTies
import Derived.KernelRfl
namespace Go.Proofs.Ytfpkeinknhijaaa
/- THE CELL 'sum', in the pinned program and in every row, IS THE sha256 OF THE DUMP (.gsa) THAT YtfpkeinknhijaaaProg.lean LOADS. Nothing in Lean hashes anything: it is a label: what it is worth is what the hold of that sum in a sandbox is worth. -/
noncomputable def Try.pinned : Pinned := { name := "ytfpkeinknhijaaa", sum := "3e00452c91a95e34321cf16d5509aefec992d19eba2ee1fa204878d07238ecd6", checked := Try.checked }
namespace Rows
def none {H : Type} : Left H := { results := [], args := [] }

/-- 'tagcachelaw18.ReverseHolds': WHATEVER THE INPUT: true; the input reads as it did. -/
def reverseHoldsSpec : ChangeSpec := { name := "reverseHolds", fn := fun _ => fun
  | [d1, d2] => { results := [.lit (.bool true)], args := [d1, d2] }
  | _ => none }
def reverseHoldsRow : OpenClaim := { program := "ytfpkeinknhijaaa", sum := "3e00452c91a95e34321cf16d5509aefec992d19eba2ee1fa204878d07238ecd6", func := "tagcache/tagcachelaw18.ReverseHolds", spec := "reverseHolds", inPlace := ["slices.overlaps[int]"], unfollowed := true, recurses := true, apart := false }
def ReverseHoldsSaid : Prop := reverseHoldsRow.holds Try.pinned (OpenSpec.ofChange reverseHoldsSpec)

/-- ITS FALSE NEIGHBOUR: 'it returns false'. Refute it at one input. -/
def reverseHoldsWrong : ChangeSpec := { name := "reverseHolds", fn := fun _ => fun
  | [d1, d2] => { results := [.lit (.bool false)], args := [d1, d2] }
  | _ => none }
def ReverseHoldsWrongFalsely : Prop := reverseHoldsRow.holds Try.pinned (OpenSpec.ofChange reverseHoldsWrong)

/-- 'tagcachelaw18.ReverseNil': WHATEVER THE INPUT: true; the input reads as it did. -/
def reverseNilSpec : ChangeSpec := { name := "reverseNil", fn := fun _ => fun
  | [d1, d2, d3, d4] => { results := [.lit (.bool true)], args := [d1, d2, d3, d4] }
  | _ => none }
def reverseNilRow : OpenClaim := { program := "ytfpkeinknhijaaa", sum := "3e00452c91a95e34321cf16d5509aefec992d19eba2ee1fa204878d07238ecd6", func := "tagcache/tagcachelaw18.ReverseNil", spec := "reverseNil", inPlace := ["slices.overlaps[int]"], unfollowed := true, recurses := true, apart := false }
def ReverseNilSaid : Prop := reverseNilRow.holds Try.pinned (OpenSpec.ofChange reverseNilSpec)

/-- ITS FALSE NEIGHBOUR: 'it returns false'. Refute it at one input. -/
def reverseNilWrong : ChangeSpec := { name := "reverseNil", fn := fun _ => fun
  | [d1, d2, d3, d4] => { results := [.lit (.bool false)], args := [d1, d2, d3, d4] }
  | _ => none }
def ReverseNilWrongFalsely : Prop := reverseNilRow.holds Try.pinned (OpenSpec.ofChange reverseNilWrong)

/-- 'tagcachelaw19.SweepAlls': WHATEVER THE INPUT: true; the input reads as it did. -/
def sweepAllsSpec : ChangeSpec := { name := "sweepAlls", fn := fun _ => fun
  | [d1, d2, d3, d4] => { results := [.lit (.bool true)], args := [d1, d2, d3, d4] }
  | _ => none }
def sweepAllsRow : OpenClaim := { program := "ytfpkeinknhijaaa", sum := "3e00452c91a95e34321cf16d5509aefec992d19eba2ee1fa204878d07238ecd6", func := "tagcache/tagcachelaw19.SweepAlls", spec := "sweepAlls", inPlace := ["slices.overlaps[int]"], recurses := true, apart := false }
def SweepAllsSaid : Prop := sweepAllsRow.holds Try.pinned (OpenSpec.ofChange sweepAllsSpec)

/-- ITS FALSE NEIGHBOUR: 'it returns false'. Refute it at one input. -/
def sweepAllsWrong : ChangeSpec := { name := "sweepAlls", fn := fun _ => fun
  | [d1, d2, d3, d4] => { results := [.lit (.bool false)], args := [d1, d2, d3, d4] }
  | _ => none }
def SweepAllsWrongFalsely : Prop := sweepAllsRow.holds Try.pinned (OpenSpec.ofChange sweepAllsWrong)

/-- 'tagcachelaw19.SweepSizes': WHATEVER THE INPUT: true; the input reads as it did. -/
def sweepSizesSpec : ChangeSpec := { name := "sweepSizes", fn := fun _ => fun
  | [d1, d2, d3] => { results := [.lit (.bool true)], args := [d1, d2, d3] }
  | _ => none }
def sweepSizesRow : OpenClaim := { program := "ytfpkeinknhijaaa", sum := "3e00452c91a95e34321cf16d5509aefec992d19eba2ee1fa204878d07238ecd6", func := "tagcache/tagcachelaw19.SweepSizes", spec := "sweepSizes", inPlace := ["slices.overlaps[int]"], recurses := true, apart := false }
def SweepSizesSaid : Prop := sweepSizesRow.holds Try.pinned (OpenSpec.ofChange sweepSizesSpec)

/-- ITS FALSE NEIGHBOUR: 'it returns false'. Refute it at one input. -/
def sweepSizesWrong : ChangeSpec := { name := "sweepSizes", fn := fun _ => fun
  | [d1, d2, d3] => { results := [.lit (.bool false)], args := [d1, d2, d3] }
  | _ => none }
def SweepSizesWrongFalsely : Prop := sweepSizesRow.holds Try.pinned (OpenSpec.ofChange sweepSizesWrong)

/-- 'tagcachelaw19.SweepNil': WHATEVER THE INPUT: true; the input reads as it did. -/
def sweepNilSpec : ChangeSpec := { name := "sweepNil", fn := fun _ => fun
  | [d] => { results := [.lit (.bool true)], args := [d] }
  | _ => none }
def sweepNilRow : OpenClaim := { program := "ytfpkeinknhijaaa", sum := "3e00452c91a95e34321cf16d5509aefec992d19eba2ee1fa204878d07238ecd6", func := "tagcache/tagcachelaw19.SweepNil", spec := "sweepNil", inPlace := ["slices.overlaps[int]"], recurses := true, apart := false }
def SweepNilSaid : Prop := sweepNilRow.holds Try.pinned (OpenSpec.ofChange sweepNilSpec)

/-- ITS FALSE NEIGHBOUR: 'it returns false'. Refute it at one input. -/
def sweepNilWrong : ChangeSpec := { name := "sweepNil", fn := fun _ => fun
  | [d] => { results := [.lit (.bool false)], args := [d] }
  | _ => none }
def SweepNilWrongFalsely : Prop := sweepNilRow.holds Try.pinned (OpenSpec.ofChange sweepNilWrong)

/-- 'tagcachelaw19.SweepPlays': WHATEVER THE INPUT: true; the input reads as it did. -/
def sweepPlaysSpec : ChangeSpec := { name := "sweepPlays", fn := fun _ => fun
  | [d] => { results := [.lit (.bool true)], args := [d] }
  | _ => none }
def sweepPlaysRow : OpenClaim := { program := "ytfpkeinknhijaaa", sum := "3e00452c91a95e34321cf16d5509aefec992d19eba2ee1fa204878d07238ecd6", func := "tagcache/tagcachelaw19.SweepPlays", spec := "sweepPlays", inPlace := ["slices.overlaps[int]"], recurses := true, apart := false }
def SweepPlaysSaid : Prop := sweepPlaysRow.holds Try.pinned (OpenSpec.ofChange sweepPlaysSpec)

/-- ITS FALSE NEIGHBOUR: 'it returns false'. Refute it at one input. -/
def sweepPlaysWrong : ChangeSpec := { name := "sweepPlays", fn := fun _ => fun
  | [d] => { results := [.lit (.bool false)], args := [d] }
  | _ => none }
def SweepPlaysWrongFalsely : Prop := sweepPlaysRow.holds Try.pinned (OpenSpec.ofChange sweepPlaysWrong)

/-- 'tagcachelaw19.SweepHolds': WHATEVER THE INPUT: true; the input reads as it did. -/
def sweepHoldsSpec : ChangeSpec := { name := "sweepHolds", fn := fun _ => fun
  | [d] => { results := [.lit (.bool true)], args := [d] }
  | _ => none }
def sweepHoldsRow : OpenClaim := { program := "ytfpkeinknhijaaa", sum := "3e00452c91a95e34321cf16d5509aefec992d19eba2ee1fa204878d07238ecd6", func := "tagcache/tagcachelaw19.SweepHolds", spec := "sweepHolds", inPlace := ["slices.overlaps[int]"], unfollowed := true, recurses := true, apart := false }
def SweepHoldsSaid : Prop := sweepHoldsRow.holds Try.pinned (OpenSpec.ofChange sweepHoldsSpec)

/-- ITS FALSE NEIGHBOUR: 'it returns false'. Refute it at one input. -/
def sweepHoldsWrong : ChangeSpec := { name := "sweepHolds", fn := fun _ => fun
  | [d] => { results := [.lit (.bool false)], args := [d] }
  | _ => none }
def SweepHoldsWrongFalsely : Prop := sweepHoldsRow.holds Try.pinned (OpenSpec.ofChange sweepHoldsWrong)

/- THE SECOND FORM. 'bulk': how many values and letters a reading holds, each counted each time it is reached (what is shared counts as often as it is met; a slice's spare places count too). A statement '..UptoSaid' is the law's where the arguments, and the package variables that the reading takes, are together of bulk at most 1048576: NARROWER than '..Said'. Prove '..Said' where nothing that the law and all that it calls make is longer than what came in: it says more and counts as full. Else prove '..UptoSaid'. A law counts once. -/
mutual
def uptoBulk {H : Type} : DataW H → Nat
  | .lit (.string bytes) => bytes.length + 1
  | .lit _ => 1
  | .nil => 1
  | .ptr d => uptoBulk d + 1
  | .slice elems spare => uptoBulkAll elems + uptoBulkAll spare + 1
  | .agg parts => uptoBulkAll parts + 1
  | .iface _ d => uptoBulk d + 1
  | .map entries => uptoBulkEntries entries + 1
  | .held _ => 1
def uptoBulkAll {H : Type} : List (DataW H) → Nat
  | [] => 0
  | d :: r => uptoBulk d + uptoBulkAll r
def uptoBulkEntries {H : Type} : List (Lit × DataW H) → Nat
  | [] => 0
  | x :: r => uptoBulkEntry x + uptoBulkEntries r
def uptoBulkEntry {H : Type} : Lit × DataW H → Nat
  | (.string bytes, d) => bytes.length + uptoBulk d + 1
  | (_, d) => uptoBulk d + 1
 end
def uptoSmall : (H : Type) → List (DataW H) → Bool := fun _ ds => decide (uptoBulkAll ds ≤ 1048576)
def OpenSpec.upto (s : _root_.Go.ChangeSpec) : _root_.Go.OpenSpec := { _root_.Go.OpenSpec.ofChange s with cond := some uptoSmall }

/-- 'tagcachelaw18.ReverseHolds', WHERE WHAT IT READS IS OF BULK AT MOST 1048576: true; the input reads as it did. -/
def reverseHoldsUptoRow : OpenClaim := { program := "ytfpkeinknhijaaa", sum := "3e00452c91a95e34321cf16d5509aefec992d19eba2ee1fa204878d07238ecd6", func := "tagcache/tagcachelaw18.ReverseHolds", spec := "reverseHolds", inPlace := ["slices.overlaps[int]"], unfollowed := true, recurses := true, apart := false, narrowed := true }
def ReverseHoldsUptoSaid : Prop := reverseHoldsUptoRow.holds Try.pinned (OpenSpec.upto reverseHoldsSpec)

/-- 'tagcachelaw18.ReverseNil', WHERE WHAT IT READS IS OF BULK AT MOST 1048576: true; the input reads as it did. -/
def reverseNilUptoRow : OpenClaim := { program := "ytfpkeinknhijaaa", sum := "3e00452c91a95e34321cf16d5509aefec992d19eba2ee1fa204878d07238ecd6", func := "tagcache/tagcachelaw18.ReverseNil", spec := "reverseNil", inPlace := ["slices.overlaps[int]"], unfollowed := true, recurses := true, apart := false, narrowed := true }
def ReverseNilUptoSaid : Prop := reverseNilUptoRow.holds Try.pinned (OpenSpec.upto reverseNilSpec)

/-- 'tagcachelaw19.SweepAlls', WHERE WHAT IT READS IS OF BULK AT MOST 1048576: true; the input reads as it did. -/
def sweepAllsUptoRow : OpenClaim := { program := "ytfpkeinknhijaaa", sum := "3e00452c91a95e34321cf16d5509aefec992d19eba2ee1fa204878d07238ecd6", func := "tagcache/tagcachelaw19.SweepAlls", spec := "sweepAlls", inPlace := ["slices.overlaps[int]"], recurses := true, apart := false, narrowed := true }
def SweepAllsUptoSaid : Prop := sweepAllsUptoRow.holds Try.pinned (OpenSpec.upto sweepAllsSpec)

/-- 'tagcachelaw19.SweepSizes', WHERE WHAT IT READS IS OF BULK AT MOST 1048576: true; the input reads as it did. -/
def sweepSizesUptoRow : OpenClaim := { program := "ytfpkeinknhijaaa", sum := "3e00452c91a95e34321cf16d5509aefec992d19eba2ee1fa204878d07238ecd6", func := "tagcache/tagcachelaw19.SweepSizes", spec := "sweepSizes", inPlace := ["slices.overlaps[int]"], recurses := true, apart := false, narrowed := true }
def SweepSizesUptoSaid : Prop := sweepSizesUptoRow.holds Try.pinned (OpenSpec.upto sweepSizesSpec)

/-- 'tagcachelaw19.SweepNil', WHERE WHAT IT READS IS OF BULK AT MOST 1048576: true; the input reads as it did. -/
def sweepNilUptoRow : OpenClaim := { program := "ytfpkeinknhijaaa", sum := "3e00452c91a95e34321cf16d5509aefec992d19eba2ee1fa204878d07238ecd6", func := "tagcache/tagcachelaw19.SweepNil", spec := "sweepNil", inPlace := ["slices.overlaps[int]"], recurses := true, apart := false, narrowed := true }
def SweepNilUptoSaid : Prop := sweepNilUptoRow.holds Try.pinned (OpenSpec.upto sweepNilSpec)

/-- 'tagcachelaw19.SweepPlays', WHERE WHAT IT READS IS OF BULK AT MOST 1048576: true; the input reads as it did. -/
def sweepPlaysUptoRow : OpenClaim := { program := "ytfpkeinknhijaaa", sum := "3e00452c91a95e34321cf16d5509aefec992d19eba2ee1fa204878d07238ecd6", func := "tagcache/tagcachelaw19.SweepPlays", spec := "sweepPlays", inPlace := ["slices.overlaps[int]"], recurses := true, apart := false, narrowed := true }
def SweepPlaysUptoSaid : Prop := sweepPlaysUptoRow.holds Try.pinned (OpenSpec.upto sweepPlaysSpec)

/-- 'tagcachelaw19.SweepHolds', WHERE WHAT IT READS IS OF BULK AT MOST 1048576: true; the input reads as it did. -/
def sweepHoldsUptoRow : OpenClaim := { program := "ytfpkeinknhijaaa", sum := "3e00452c91a95e34321cf16d5509aefec992d19eba2ee1fa204878d07238ecd6", func := "tagcache/tagcachelaw19.SweepHolds", spec := "sweepHolds", inPlace := ["slices.overlaps[int]"], unfollowed := true, recurses := true, apart := false, narrowed := true }
def SweepHoldsUptoSaid : Prop := sweepHoldsUptoRow.holds Try.pinned (OpenSpec.upto sweepHoldsSpec)

end Rows
end Go.Proofs.Ytfpkeinknhijaaa
