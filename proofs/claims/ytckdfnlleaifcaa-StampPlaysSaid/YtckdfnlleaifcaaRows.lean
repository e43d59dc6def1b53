/-
  No cell of these rows narrows 'for every input' (looked for: loops, veiled, ifaces, maps, wideKeys, modest, calm, conditions, laid).
  DERIVED. THE GIVEN ROWS OF THIS SEAT. 5 by the template 'for every input the law returns true; each argument reads behind the call as it read before'; 0 by the template 'total and deterministic' (their statements: YtckdfnlleaifcaaTotals.lean).
  GIVEN WITH THE SEED: the statements are not yours to turn. If you find one false, say at which input.
  Laid BY PROGRAM, IN A SANDBOX (cutbox-rows.mjs): the forced cells as the released guide's own fill.sh prints them over the translation eabbd9db8fb80ab4… (all of the seat's roots in one cut). By AI agents, Wed Nov 11 2026. No macro, syntax, notation, axiom, sorry.
-/
import Derived.Test.YtckdfnlleaifcaaChecked
import GoSem.Claim
import GoSem.ClaimJoined
import GoSem.ClaimMapViews
import Derived.JoinedTies
import Derived.KernelRfl
namespace Go.Proofs.Ytckdfnlleaifcaa
/- THE CELL 'sum', in the pinned program and in every row, IS THE sha256 OF THE DUMP (.gsa) THAT YtckdfnlleaifcaaProg.lean LOADS. Nothing in Lean hashes anything: it is a label: what it is worth is what the hold of that sum in a sandbox is worth. -/
noncomputable def Try.pinned : Pinned := { name := "ytckdfnlleaifcaa", sum := "eabbd9db8fb80ab411224449587077bd66381b64ef474ceb87caf628bde41be5", checked := Try.checked }
namespace Rows
def none {H : Type} : Left H := { results := [], args := [] }

/-- 'tagcachelaw16.StampHolds': WHATEVER THE INPUT: true; the input reads as it did. -/
def stampHoldsSpec : ChangeSpec := { name := "stampHolds", fn := fun _ => fun
  | [d1, d2, d3] => { results := [.lit (.bool true)], args := [d1, d2, d3] }
  | _ => none }
def stampHoldsRow : OpenClaim := { program := "ytckdfnlleaifcaa", sum := "eabbd9db8fb80ab411224449587077bd66381b64ef474ceb87caf628bde41be5", func := "tagcache/tagcachelaw16.StampHolds", spec := "stampHolds", recurses := true, apart := false }
def StampHoldsSaid : Prop := stampHoldsRow.holds Try.pinned (OpenSpec.ofChange stampHoldsSpec)

/-- ITS FALSE NEIGHBOUR: 'it returns false'. Refute it at one input. -/
def stampHoldsWrong : ChangeSpec := { name := "stampHolds", fn := fun _ => fun
  | [d1, d2, d3] => { results := [.lit (.bool false)], args := [d1, d2, d3] }
  | _ => none }
def StampHoldsWrongFalsely : Prop := stampHoldsRow.holds Try.pinned (OpenSpec.ofChange stampHoldsWrong)

/-- 'tagcachelaw16.StampNew': WHATEVER THE INPUT: true; the input reads as it did. -/
def stampNewSpec : ChangeSpec := { name := "stampNew", fn := fun _ => fun
  | [d] => { results := [.lit (.bool true)], args := [d] }
  | _ => none }
def stampNewRow : OpenClaim := { program := "ytckdfnlleaifcaa", sum := "eabbd9db8fb80ab411224449587077bd66381b64ef474ceb87caf628bde41be5", func := "tagcache/tagcachelaw16.StampNew", spec := "stampNew", recurses := true, apart := false }
def StampNewSaid : Prop := stampNewRow.holds Try.pinned (OpenSpec.ofChange stampNewSpec)

/-- ITS FALSE NEIGHBOUR: 'it returns false'. Refute it at one input. -/
def stampNewWrong : ChangeSpec := { name := "stampNew", fn := fun _ => fun
  | [d] => { results := [.lit (.bool false)], args := [d] }
  | _ => none }
def StampNewWrongFalsely : Prop := stampNewRow.holds Try.pinned (OpenSpec.ofChange stampNewWrong)

/-- 'tagcachelaw16.StampNil': WHATEVER THE INPUT: true; the input reads as it did. -/
def stampNilSpec : ChangeSpec := { name := "stampNil", fn := fun _ => fun
  | [d1, d2, d3] => { results := [.lit (.bool true)], args := [d1, d2, d3] }
  | _ => none }
def stampNilRow : OpenClaim := { program := "ytckdfnlleaifcaa", sum := "eabbd9db8fb80ab411224449587077bd66381b64ef474ceb87caf628bde41be5", func := "tagcache/tagcachelaw16.StampNil", spec := "stampNil", recurses := true, apart := false }
def StampNilSaid : Prop := stampNilRow.holds Try.pinned (OpenSpec.ofChange stampNilSpec)

/-- ITS FALSE NEIGHBOUR: 'it returns false'. Refute it at one input. -/
def stampNilWrong : ChangeSpec := { name := "stampNil", fn := fun _ => fun
  | [d1, d2, d3] => { results := [.lit (.bool false)], args := [d1, d2, d3] }
  | _ => none }
def StampNilWrongFalsely : Prop := stampNilRow.holds Try.pinned (OpenSpec.ofChange stampNilWrong)

/-- 'tagcachelaw16.StampPlays': WHATEVER THE INPUT: true; the input reads as it did. -/
def stampPlaysSpec : ChangeSpec := { name := "stampPlays", fn := fun _ => fun
  | [d1, d2] => { results := [.lit (.bool true)], args := [d1, d2] }
  | _ => none }
def stampPlaysRow : OpenClaim := { program := "ytckdfnlleaifcaa", sum := "eabbd9db8fb80ab411224449587077bd66381b64ef474ceb87caf628bde41be5", func := "tagcache/tagcachelaw16.StampPlays", spec := "stampPlays", unfollowed := true, recurses := true, apart := false }
def StampPlaysSaid : Prop := stampPlaysRow.holds Try.pinned (OpenSpec.ofChange stampPlaysSpec)

/-- ITS FALSE NEIGHBOUR: 'it returns false'. Refute it at one input. -/
def stampPlaysWrong : ChangeSpec := { name := "stampPlays", fn := fun _ => fun
  | [d1, d2] => { results := [.lit (.bool false)], args := [d1, d2] }
  | _ => none }
def StampPlaysWrongFalsely : Prop := stampPlaysRow.holds Try.pinned (OpenSpec.ofChange stampPlaysWrong)

/-- 'tagcachelaw16.StampRestores': WHATEVER THE INPUT: true; the input reads as it did. -/
def stampRestoresSpec : ChangeSpec := { name := "stampRestores", fn := fun _ => fun
  | [d1, d2, d3, d4, d5] => { results := [.lit (.bool true)], args := [d1, d2, d3, d4, d5] }
  | _ => none }
def stampRestoresRow : OpenClaim := { program := "ytckdfnlleaifcaa", sum := "eabbd9db8fb80ab411224449587077bd66381b64ef474ceb87caf628bde41be5", func := "tagcache/tagcachelaw16.StampRestores", spec := "stampRestores", unfollowed := true, recurses := true, apart := false }
def StampRestoresSaid : Prop := stampRestoresRow.holds Try.pinned (OpenSpec.ofChange stampRestoresSpec)

/-- ITS FALSE NEIGHBOUR: 'it returns false'. Refute it at one input. -/
def stampRestoresWrong : ChangeSpec := { name := "stampRestores", fn := fun _ => fun
  | [d1, d2, d3, d4, d5] => { results := [.lit (.bool false)], args := [d1, d2, d3, d4, d5] }
  | _ => none }
def StampRestoresWrongFalsely : Prop := stampRestoresRow.holds Try.pinned (OpenSpec.ofChange stampRestoresWrong)

/- THE SECOND FORM. 'bulk': how many values and letters a reading holds, each counted each time it is reached (what is shared counts as often as it is met; a slice's spare places count too). A statement '..UptoSaid' is the law's where the arguments, and the package variables that the reading takes, are together of bulk at most 1048576: NARROWER than '..Said'. Prove '..Said' where nothing that the law and all that it calls make is longer than what came in: it says more and counts as full. Else prove '..UptoSaid'. A law counts once. -/
mutual
def uptoBulk {H : Type} : DataW H → Nat
  | .lit (.string bytes) => bytes.length + 1
  | .lit _ => 1
  | .nil => 1
  | .ptr d => uptoBulk d + 1
  | .slice elems spare => uptoBulkAll elems + uptoBulkAll spare + 1
  | .agg parts => uptoBulkAll parts + 1
  | .iface _ d => uptoBulk d + 1
  | .map entries => uptoBulkEntries entries + 1
  | .held _ => 1
def uptoBulkAll {H : Type} : List (DataW H) → Nat
  | [] => 0
  | d :: r => uptoBulk d + uptoBulkAll r
def uptoBulkEntries {H : Type} : List (Lit × DataW H) → Nat
  | [] => 0
  | x :: r => uptoBulkEntry x + uptoBulkEntries r
def uptoBulkEntry {H : Type} : Lit × DataW H → Nat
  | (.string bytes, d) => bytes.length + uptoBulk d + 1
  | (_, d) => uptoBulk d + 1
 end
def uptoSmall : (H : Type) → List (DataW H) → Bool := fun _ ds => decide (uptoBulkAll ds ≤ 1048576)
def OpenSpec.upto (s : _root_.Go.ChangeSpec) : _root_.Go.OpenSpec := { _root_.Go.OpenSpec.ofChange s with cond := some uptoSmall }

/-- 'tagcachelaw16.StampHolds', WHERE WHAT IT READS IS OF BULK AT MOST 1048576: true; the input reads as it did. -/
def stampHoldsUptoRow : OpenClaim := { program := "ytckdfnlleaifcaa", sum := "eabbd9db8fb80ab411224449587077bd66381b64ef474ceb87caf628bde41be5", func := "tagcache/tagcachelaw16.StampHolds", spec := "stampHolds", recurses := true, apart := false, narrowed := true }
def StampHoldsUptoSaid : Prop := stampHoldsUptoRow.holds Try.pinned (OpenSpec.upto stampHoldsSpec)

/-- 'tagcachelaw16.StampNew', WHERE WHAT IT READS IS OF BULK AT MOST 1048576: true; the input reads as it did. -/
def stampNewUptoRow : OpenClaim := { program := "ytckdfnlleaifcaa", sum := "eabbd9db8fb80ab411224449587077bd66381b64ef474ceb87caf628bde41be5", func := "tagcache/tagcachelaw16.StampNew", spec := "stampNew", recurses := true, apart := false, narrowed := true }
def StampNewUptoSaid : Prop := stampNewUptoRow.holds Try.pinned (OpenSpec.upto stampNewSpec)

/-- 'tagcachelaw16.StampNil', WHERE WHAT IT READS IS OF BULK AT MOST 1048576: true; the input reads as it did. -/
def stampNilUptoRow : OpenClaim := { program := "ytckdfnlleaifcaa", sum := "eabbd9db8fb80ab411224449587077bd66381b64ef474ceb87caf628bde41be5", func := "tagcache/tagcachelaw16.StampNil", spec := "stampNil", recurses := true, apart := false, narrowed := true }
def StampNilUptoSaid : Prop := stampNilUptoRow.holds Try.pinned (OpenSpec.upto stampNilSpec)

/-- 'tagcachelaw16.StampPlays', WHERE WHAT IT READS IS OF BULK AT MOST 1048576: true; the input reads as it did. -/
def stampPlaysUptoRow : OpenClaim := { program := "ytckdfnlleaifcaa", sum := "eabbd9db8fb80ab411224449587077bd66381b64ef474ceb87caf628bde41be5", func := "tagcache/tagcachelaw16.StampPlays", spec := "stampPlays", unfollowed := true, recurses := true, apart := false, narrowed := true }
def StampPlaysUptoSaid : Prop := stampPlaysUptoRow.holds Try.pinned (OpenSpec.upto stampPlaysSpec)

/-- 'tagcachelaw16.StampRestores', WHERE WHAT IT READS IS OF BULK AT MOST 1048576: true; the input reads as it did. -/
def stampRestoresUptoRow : OpenClaim := { program := "ytckdfnlleaifcaa", sum := "eabbd9db8fb80ab411224449587077bd66381b64ef474ceb87caf628bde41be5", func := "tagcache/tagcachelaw16.StampRestores", spec := "stampRestores", unfollowed := true, recurses := true, apart := false, narrowed := true }
def StampRestoresUptoSaid : Prop := stampRestoresUptoRow.holds Try.pinned (OpenSpec.upto stampRestoresSpec)

end Rows
end Go.Proofs.Ytckdfnlleaifcaa
