/-
  No cell of these rows narrows 'for every input' (looked for: loops, veiled, ifaces, maps, wideKeys, modest, calm, conditions, laid).
  DERIVED. THE GIVEN ROWS OF THIS SEAT. 3 by the template 'for every input the law returns true; each argument reads behind the call as it read before'; 0 by the template 'total and deterministic' (their statements: YtfpkeinknhijaaaGreatTotals.lean).
  GIVEN WITH THE SEED: the statements are not yours to turn. If you find one false, say at which input.
  Laid BY PROGRAM, IN A SANDBOX (cutbox-rows.mjs): the forced cells as the released guide's own fill.sh prints them over the translation 159ad083df660fb3… (all of the seat's roots in one cut). By AI agents, Wed Nov 11 2026. No macro, syntax, notation, axiom, sorry.
-/
import Derived.Test.YtfpkeinknhijaaaGreatChecked
import GoSem.Claim
import GoSem.ClaimJoined
import GoSem.ClaimMapViews
import Derived.JoinedTies
import Derived.KernelRfl
namespace Go.Proofs.YtfpkeinknhijaaaGreat
/- THE CELL 'sum', in the pinned program and in every row, IS THE sha256 OF THE DUMP (.gsa) THAT YtfpkeinknhijaaaGreatProg.lean LOADS. Nothing in Lean hashes anything: it is a label: what it is worth is what the hold of that sum in a sandbox is worth. -/
noncomputable def Tryz.pinned : Pinned := { name := "ytfpkeinknhijaaagreat", sum := "159ad083df660fb3ac0391dcd22b17b7ebbf6ddb3dcd01031bf546e11c9fd0ae", checked := Tryz.checked }
namespace Rows
def none {H : Type} : Left H := { results := [], args := [] }

/-- 'tagcachelaw18.ReverseNew': WHATEVER THE INPUT: true; the input reads as it did. -/
def reverseNewSpec : ChangeSpec := { name := "reverseNew", fn := fun _ => fun
  | [d1, d2] => { results := [.lit (.bool true)], args := [d1, d2] }
  | _ => none }
def reverseNewRow : OpenClaim := { program := "ytfpkeinknhijaaagreat", sum := "159ad083df660fb3ac0391dcd22b17b7ebbf6ddb3dcd01031bf546e11c9fd0ae", func := "tagcache/tagcachelaw18.ReverseNew", spec := "reverseNew", inPlace := ["slices.overlaps[int]"], unfollowed := true, recurses := true, apart := false }
def ReverseNewSaid : Prop := reverseNewRow.holds Tryz.pinned (OpenSpec.ofChange reverseNewSpec)

/-- ITS FALSE NEIGHBOUR: 'it returns false'. Refute it at one input. -/
def reverseNewWrong : ChangeSpec := { name := "reverseNew", fn := fun _ => fun
  | [d1, d2] => { results := [.lit (.bool false)], args := [d1, d2] }
  | _ => none }
def ReverseNewWrongFalsely : Prop := reverseNewRow.holds Tryz.pinned (OpenSpec.ofChange reverseNewWrong)

/-- 'tagcachelaw18.ReverseMany': WHATEVER THE INPUT: true; the input reads as it did. -/
def reverseManySpec : ChangeSpec := { name := "reverseMany", fn := fun _ => fun
  | [d1, d2, d3] => { results := [.lit (.bool true)], args := [d1, d2, d3] }
  | _ => none }
def reverseManyRow : OpenClaim := { program := "ytfpkeinknhijaaagreat", sum := "159ad083df660fb3ac0391dcd22b17b7ebbf6ddb3dcd01031bf546e11c9fd0ae", func := "tagcache/tagcachelaw18.ReverseMany", spec := "reverseMany", inPlace := ["slices.overlaps[int]"], unfollowed := true, recurses := true, apart := false }
def ReverseManySaid : Prop := reverseManyRow.holds Tryz.pinned (OpenSpec.ofChange reverseManySpec)

/-- ITS FALSE NEIGHBOUR: 'it returns false'. Refute it at one input. -/
def reverseManyWrong : ChangeSpec := { name := "reverseMany", fn := fun _ => fun
  | [d1, d2, d3] => { results := [.lit (.bool false)], args := [d1, d2, d3] }
  | _ => none }
def ReverseManyWrongFalsely : Prop := reverseManyRow.holds Tryz.pinned (OpenSpec.ofChange reverseManyWrong)

/-- 'tagcachelaw18.ReversePlays': WHATEVER THE INPUT: true; the input reads as it did. -/
def reversePlaysSpec : ChangeSpec := { name := "reversePlays", fn := fun _ => fun
  | [d1, d2] => { results := [.lit (.bool true)], args := [d1, d2] }
  | _ => none }
def reversePlaysRow : OpenClaim := { program := "ytfpkeinknhijaaagreat", sum := "159ad083df660fb3ac0391dcd22b17b7ebbf6ddb3dcd01031bf546e11c9fd0ae", func := "tagcache/tagcachelaw18.ReversePlays", spec := "reversePlays", inPlace := ["slices.overlaps[int]"], unfollowed := true, recurses := true, apart := false }
def ReversePlaysSaid : Prop := reversePlaysRow.holds Tryz.pinned (OpenSpec.ofChange reversePlaysSpec)

/-- ITS FALSE NEIGHBOUR: 'it returns false'. Refute it at one input. -/
def reversePlaysWrong : ChangeSpec := { name := "reversePlays", fn := fun _ => fun
  | [d1, d2] => { results := [.lit (.bool false)], args := [d1, d2] }
  | _ => none }
def ReversePlaysWrongFalsely : Prop := reversePlaysRow.holds Tryz.pinned (OpenSpec.ofChange reversePlaysWrong)

/- THE SECOND FORM. 'bulk': how many values and letters a reading holds, each counted each time it is reached (what is shared counts as often as it is met; a slice's spare places count too). A statement '..UptoSaid' is the law's where the arguments, and the package variables that the reading takes, are together of bulk at most 1048576: NARROWER than '..Said'. Prove '..Said' where nothing that the law and all that it calls make is longer than what came in: it says more and counts as full. Else prove '..UptoSaid'. A law counts once. -/
mutual
def uptoBulk {H : Type} : DataW H → Nat
  | .lit (.string bytes) => bytes.length + 1
  | .lit _ => 1
  | .nil => 1
  | .ptr d => uptoBulk d + 1
  | .slice elems spare => uptoBulkAll elems + uptoBulkAll spare + 1
  | .agg parts => uptoBulkAll parts + 1
  | .iface _ d => uptoBulk d + 1
  | .map entries => uptoBulkEntries entries + 1
  | .held _ => 1
def uptoBulkAll {H : Type} : List (DataW H) → Nat
  | [] => 0
  | d :: r => uptoBulk d + uptoBulkAll r
def uptoBulkEntries {H : Type} : List (Lit × DataW H) → Nat
  | [] => 0
  | x :: r => uptoBulkEntry x + uptoBulkEntries r
def uptoBulkEntry {H : Type} : Lit × DataW H → Nat
  | (.string bytes, d) => bytes.length + uptoBulk d + 1
  | (_, d) => uptoBulk d + 1
 end
def uptoSmall : (H : Type) → List (DataW H) → Bool := fun _ ds => decide (uptoBulkAll ds ≤ 1048576)
def OpenSpec.upto (s : _root_.Go.ChangeSpec) : _root_.Go.OpenSpec := { _root_.Go.OpenSpec.ofChange s with cond := some uptoSmall }

/-- 'tagcachelaw18.ReverseNew', WHERE WHAT IT READS IS OF BULK AT MOST 1048576: true; the input reads as it did. -/
def reverseNewUptoRow : OpenClaim := { program := "ytfpkeinknhijaaagreat", sum := "159ad083df660fb3ac0391dcd22b17b7ebbf6ddb3dcd01031bf546e11c9fd0ae", func := "tagcache/tagcachelaw18.ReverseNew", spec := "reverseNew", inPlace := ["slices.overlaps[int]"], unfollowed := true, recurses := true, apart := false, narrowed := true }
def ReverseNewUptoSaid : Prop := reverseNewUptoRow.holds Tryz.pinned (OpenSpec.upto reverseNewSpec)

/-- 'tagcachelaw18.ReverseMany', WHERE WHAT IT READS IS OF BULK AT MOST 1048576: true; the input reads as it did. -/
def reverseManyUptoRow : OpenClaim := { program := "ytfpkeinknhijaaagreat", sum := "159ad083df660fb3ac0391dcd22b17b7ebbf6ddb3dcd01031bf546e11c9fd0ae", func := "tagcache/tagcachelaw18.ReverseMany", spec := "reverseMany", inPlace := ["slices.overlaps[int]"], unfollowed := true, recurses := true, apart := false, narrowed := true }
def ReverseManyUptoSaid : Prop := reverseManyUptoRow.holds Tryz.pinned (OpenSpec.upto reverseManySpec)

/-- 'tagcachelaw18.ReversePlays', WHERE WHAT IT READS IS OF BULK AT MOST 1048576: true; the input reads as it did. -/
def reversePlaysUptoRow : OpenClaim := { program := "ytfpkeinknhijaaagreat", sum := "159ad083df660fb3ac0391dcd22b17b7ebbf6ddb3dcd01031bf546e11c9fd0ae", func := "tagcache/tagcachelaw18.ReversePlays", spec := "reversePlays", inPlace := ["slices.overlaps[int]"], unfollowed := true, recurses := true, apart := false, narrowed := true }
def ReversePlaysUptoSaid : Prop := reversePlaysUptoRow.holds Tryz.pinned (OpenSpec.upto reversePlaysSpec)

end Rows
end Go.Proofs.YtfpkeinknhijaaaGreat
