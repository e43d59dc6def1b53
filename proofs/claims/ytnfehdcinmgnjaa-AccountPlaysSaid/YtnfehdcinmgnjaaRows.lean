/-
  No cell of these rows narrows 'for every input' (looked for: loops, veiled, ifaces, maps, wideKeys, modest, calm, conditions, laid).
  DERIVED. THE GIVEN ROWS OF THIS SEAT. 5 by the template 'for every input the law returns true; each argument reads behind the call as it read before'; 0 by the template 'total and deterministic' (their statements: YtnfehdcinmgnjaaTotals.lean).
  GIVEN WITH THE SEED: the statements are not yours to turn. If you find one false, say at which input.
  Laid BY PROGRAM, IN A SANDBOX (cutbox-rows.mjs): the forced cells as the released guide's own fill.sh prints them over the translation 57fc212431632df2… (all of the seat's roots in one cut). By AI agents, Wed Nov 11 2026. No macro, syntax, notation, axiom, sorry.
-/
import Derived.Test.YtnfehdcinmgnjaaChecked
import GoSem.Claim
import GoSem.ClaimJoined
import GoSem.ClaimMapViews
import Derived.JoinedTies
import Derived.KernelRfl
namespace Go.Proofs.Ytnfehdcinmgnjaa
/- THE CELL 'sum', in the pinned program and in every row, IS THE sha256 OF THE DUMP (.gsa) THAT YtnfehdcinmgnjaaProg.lean LOADS. Nothing in Lean hashes anything: it is a label: what it is worth is what the hold of that sum in a sandbox is worth. -/
noncomputable def Try.pinned : Pinned := { name := "ytnfehdcinmgnjaa", sum := "57fc212431632df2bdb6ac122376f1ec2dde370dcbe956e9394ae5aaf2992027", checked := Try.checked }
namespace Rows
def none {H : Type} : Left H := { results := [], args := [] }

/-- 'tagcachelaw13.AccountCosts': WHATEVER THE INPUT: true; the input reads as it did. -/
def accountCostsSpec : ChangeSpec := { name := "accountCosts", fn := fun _ => fun
  | [d1, d2, d3] => { results := [.lit (.bool true)], args := [d1, d2, d3] }
  | _ => none }
def accountCostsRow : OpenClaim := { program := "ytnfehdcinmgnjaa", sum := "57fc212431632df2bdb6ac122376f1ec2dde370dcbe956e9394ae5aaf2992027", func := "tagcache/tagcachelaw13.AccountCosts", spec := "accountCosts", recurses := true, apart := false }
def AccountCostsSaid : Prop := accountCostsRow.holds Try.pinned (OpenSpec.ofChange accountCostsSpec)

/-- ITS FALSE NEIGHBOUR: 'it returns false'. Refute it at one input. -/
def accountCostsWrong : ChangeSpec := { name := "accountCosts", fn := fun _ => fun
  | [d1, d2, d3] => { results := [.lit (.bool false)], args := [d1, d2, d3] }
  | _ => none }
def AccountCostsWrongFalsely : Prop := accountCostsRow.holds Try.pinned (OpenSpec.ofChange accountCostsWrong)

/-- 'tagcachelaw13.AccountFulls': WHATEVER THE INPUT: true; the input reads as it did. -/
def accountFullsSpec : ChangeSpec := { name := "accountFulls", fn := fun _ => fun
  | [d1, d2] => { results := [.lit (.bool true)], args := [d1, d2] }
  | _ => none }
def accountFullsRow : OpenClaim := { program := "ytnfehdcinmgnjaa", sum := "57fc212431632df2bdb6ac122376f1ec2dde370dcbe956e9394ae5aaf2992027", func := "tagcache/tagcachelaw13.AccountFulls", spec := "accountFulls", recurses := true, apart := false }
def AccountFullsSaid : Prop := accountFullsRow.holds Try.pinned (OpenSpec.ofChange accountFullsSpec)

/-- ITS FALSE NEIGHBOUR: 'it returns false'. Refute it at one input. -/
def accountFullsWrong : ChangeSpec := { name := "accountFulls", fn := fun _ => fun
  | [d1, d2] => { results := [.lit (.bool false)], args := [d1, d2] }
  | _ => none }
def AccountFullsWrongFalsely : Prop := accountFullsRow.holds Try.pinned (OpenSpec.ofChange accountFullsWrong)

/-- 'tagcachelaw13.AccountHolds': WHATEVER THE INPUT: true; the input reads as it did. -/
def accountHoldsSpec : ChangeSpec := { name := "accountHolds", fn := fun _ => fun
  | [d1, d2, d3, d4, d5, d6] => { results := [.lit (.bool true)], args := [d1, d2, d3, d4, d5, d6] }
  | _ => none }
def accountHoldsRow : OpenClaim := { program := "ytnfehdcinmgnjaa", sum := "57fc212431632df2bdb6ac122376f1ec2dde370dcbe956e9394ae5aaf2992027", func := "tagcache/tagcachelaw13.AccountHolds", spec := "accountHolds", recurses := true, apart := false }
def AccountHoldsSaid : Prop := accountHoldsRow.holds Try.pinned (OpenSpec.ofChange accountHoldsSpec)

/-- ITS FALSE NEIGHBOUR: 'it returns false'. Refute it at one input. -/
def accountHoldsWrong : ChangeSpec := { name := "accountHolds", fn := fun _ => fun
  | [d1, d2, d3, d4, d5, d6] => { results := [.lit (.bool false)], args := [d1, d2, d3, d4, d5, d6] }
  | _ => none }
def AccountHoldsWrongFalsely : Prop := accountHoldsRow.holds Try.pinned (OpenSpec.ofChange accountHoldsWrong)

/-- 'tagcachelaw13.AccountPlays': WHATEVER THE INPUT: true; the input reads as it did. -/
def accountPlaysSpec : ChangeSpec := { name := "accountPlays", fn := fun _ => fun
  | [d1, d2, d3] => { results := [.lit (.bool true)], args := [d1, d2, d3] }
  | _ => none }
def accountPlaysRow : OpenClaim := { program := "ytnfehdcinmgnjaa", sum := "57fc212431632df2bdb6ac122376f1ec2dde370dcbe956e9394ae5aaf2992027", func := "tagcache/tagcachelaw13.AccountPlays", spec := "accountPlays", recurses := true, apart := false }
def AccountPlaysSaid : Prop := accountPlaysRow.holds Try.pinned (OpenSpec.ofChange accountPlaysSpec)

/-- ITS FALSE NEIGHBOUR: 'it returns false'. Refute it at one input. -/
def accountPlaysWrong : ChangeSpec := { name := "accountPlays", fn := fun _ => fun
  | [d1, d2, d3] => { results := [.lit (.bool false)], args := [d1, d2, d3] }
  | _ => none }
def AccountPlaysWrongFalsely : Prop := accountPlaysRow.holds Try.pinned (OpenSpec.ofChange accountPlaysWrong)

/-- 'tagcachelaw13.AccountNil': WHATEVER THE INPUT: true; the input reads as it did. -/
def accountNilSpec : ChangeSpec := { name := "accountNil", fn := fun _ => fun
  | [d1, d2] => { results := [.lit (.bool true)], args := [d1, d2] }
  | _ => none }
def accountNilRow : OpenClaim := { program := "ytnfehdcinmgnjaa", sum := "57fc212431632df2bdb6ac122376f1ec2dde370dcbe956e9394ae5aaf2992027", func := "tagcache/tagcachelaw13.AccountNil", spec := "accountNil", recurses := true, apart := false }
def AccountNilSaid : Prop := accountNilRow.holds Try.pinned (OpenSpec.ofChange accountNilSpec)

/-- ITS FALSE NEIGHBOUR: 'it returns false'. Refute it at one input. -/
def accountNilWrong : ChangeSpec := { name := "accountNil", fn := fun _ => fun
  | [d1, d2] => { results := [.lit (.bool false)], args := [d1, d2] }
  | _ => none }
def AccountNilWrongFalsely : Prop := accountNilRow.holds Try.pinned (OpenSpec.ofChange accountNilWrong)

/- THE SECOND FORM. 'bulk': how many values and letters a reading holds, each counted each time it is reached (what is shared counts as often as it is met; a slice's spare places count too). A statement '..UptoSaid' is the law's where the arguments, and the package variables that the reading takes, are together of bulk at most 1048576: NARROWER than '..Said'. Prove '..Said' where nothing that the law and all that it calls make is longer than what came in: it says more and counts as full. Else prove '..UptoSaid'. A law counts once. -/
mutual
def uptoBulk {H : Type} : DataW H → Nat
  | .lit (.string bytes) => bytes.length + 1
  | .lit _ => 1
  | .nil => 1
  | .ptr d => uptoBulk d + 1
  | .slice elems spare => uptoBulkAll elems + uptoBulkAll spare + 1
  | .agg parts => uptoBulkAll parts + 1
  | .iface _ d => uptoBulk d + 1
  | .map entries => uptoBulkEntries entries + 1
  | .held _ => 1
def uptoBulkAll {H : Type} : List (DataW H) → Nat
  | [] => 0
  | d :: r => uptoBulk d + uptoBulkAll r
def uptoBulkEntries {H : Type} : List (Lit × DataW H) → Nat
  | [] => 0
  | x :: r => uptoBulkEntry x + uptoBulkEntries r
def uptoBulkEntry {H : Type} : Lit × DataW H → Nat
  | (.string bytes, d) => bytes.length + uptoBulk d + 1
  | (_, d) => uptoBulk d + 1
 end
def uptoSmall : (H : Type) → List (DataW H) → Bool := fun _ ds => decide (uptoBulkAll ds ≤ 1048576)
def OpenSpec.upto (s : _root_.Go.ChangeSpec) : _root_.Go.OpenSpec := { _root_.Go.OpenSpec.ofChange s with cond := some uptoSmall }

/-- 'tagcachelaw13.AccountCosts', WHERE WHAT IT READS IS OF BULK AT MOST 1048576: true; the input reads as it did. -/
def accountCostsUptoRow : OpenClaim := { program := "ytnfehdcinmgnjaa", sum := "57fc212431632df2bdb6ac122376f1ec2dde370dcbe956e9394ae5aaf2992027", func := "tagcache/tagcachelaw13.AccountCosts", spec := "accountCosts", recurses := true, apart := false, narrowed := true }
def AccountCostsUptoSaid : Prop := accountCostsUptoRow.holds Try.pinned (OpenSpec.upto accountCostsSpec)

/-- 'tagcachelaw13.AccountFulls', WHERE WHAT IT READS IS OF BULK AT MOST 1048576: true; the input reads as it did. -/
def accountFullsUptoRow : OpenClaim := { program := "ytnfehdcinmgnjaa", sum := "57fc212431632df2bdb6ac122376f1ec2dde370dcbe956e9394ae5aaf2992027", func := "tagcache/tagcachelaw13.AccountFulls", spec := "accountFulls", recurses := true, apart := false, narrowed := true }
def AccountFullsUptoSaid : Prop := accountFullsUptoRow.holds Try.pinned (OpenSpec.upto accountFullsSpec)

/-- 'tagcachelaw13.AccountHolds', WHERE WHAT IT READS IS OF BULK AT MOST 1048576: true; the input reads as it did. -/
def accountHoldsUptoRow : OpenClaim := { program := "ytnfehdcinmgnjaa", sum := "57fc212431632df2bdb6ac122376f1ec2dde370dcbe956e9394ae5aaf2992027", func := "tagcache/tagcachelaw13.AccountHolds", spec := "accountHolds", recurses := true, apart := false, narrowed := true }
def AccountHoldsUptoSaid : Prop := accountHoldsUptoRow.holds Try.pinned (OpenSpec.upto accountHoldsSpec)

/-- 'tagcachelaw13.AccountPlays', WHERE WHAT IT READS IS OF BULK AT MOST 1048576: true; the input reads as it did. -/
def accountPlaysUptoRow : OpenClaim := { program := "ytnfehdcinmgnjaa", sum := "57fc212431632df2bdb6ac122376f1ec2dde370dcbe956e9394ae5aaf2992027", func := "tagcache/tagcachelaw13.AccountPlays", spec := "accountPlays", recurses := true, apart := false, narrowed := true }
def AccountPlaysUptoSaid : Prop := accountPlaysUptoRow.holds Try.pinned (OpenSpec.upto accountPlaysSpec)

/-- 'tagcachelaw13.AccountNil', WHERE WHAT IT READS IS OF BULK AT MOST 1048576: true; the input reads as it did. -/
def accountNilUptoRow : OpenClaim := { program := "ytnfehdcinmgnjaa", sum := "57fc212431632df2bdb6ac122376f1ec2dde370dcbe956e9394ae5aaf2992027", func := "tagcache/tagcachelaw13.AccountNil", spec := "accountNil", recurses := true, apart := false, narrowed := true }
def AccountNilUptoSaid : Prop := accountNilUptoRow.holds Try.pinned (OpenSpec.upto accountNilSpec)

end Rows
end Go.Proofs.Ytnfehdcinmgnjaa
