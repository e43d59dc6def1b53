/-
  No cell of these rows narrows 'for every input' (looked for: loops, veiled, ifaces, maps, wideKeys, modest, calm, conditions, laid).
  DERIVED. THE GIVEN ROWS OF THIS SEAT. 6 by the template 'for every input the law returns true; each argument reads behind the call as it read before'; 0 by the template 'total and deterministic' (their statements: YtanmihifkjhaaaaTotals.lean).
  GIVEN WITH THE SEED: the statements are not yours to turn. If you find one false, say at which input.
  Laid BY PROGRAM, IN A SANDBOX (cutbox-rows.mjs): the forced cells as the released guide's own fill.sh prints them over the translation 172ce23452d99799… (all of the seat's roots in one cut). By AI agents, Wed Nov 11 2026. No macro, syntax, notation, axiom, sorry.
-/
import Derived.Test.YtanmihifkjhaaaaChecked
import GoSem.Claim
import GoSem.ClaimJoined
import GoSem.ClaimMapViews
import Derived.JoinedTies
import Derived.KernelRfl
namespace Go.Proofs.Ytanmihifkjhaaaa
/- THE CELL 'sum', in the pinned program and in every row, IS THE sha256 OF THE DUMP (.gsa) THAT YtanmihifkjhaaaaProg.lean LOADS. Nothing in Lean hashes anything: it is a label: what it is worth is what the hold of that sum in a sandbox is worth. -/
noncomputable def Try.pinned : Pinned := { name := "ytanmihifkjhaaaa", sum := "172ce23452d99799f3b33a5306b96a22c24a4eb98795311c9fdd8ded5b54ebe3", checked := Try.checked }
namespace Rows
def none {H : Type} : Left H := { results := [], args := [] }

/-- 'tagcachelaw15.InternNew': WHATEVER THE INPUT: true; the input reads as it did. -/
def internNewSpec : ChangeSpec := { name := "internNew", fn := fun _ => fun
  | [d1, d2] => { results := [.lit (.bool true)], args := [d1, d2] }
  | _ => none }
def internNewRow : OpenClaim := { program := "ytanmihifkjhaaaa", sum := "172ce23452d99799f3b33a5306b96a22c24a4eb98795311c9fdd8ded5b54ebe3", func := "tagcache/tagcachelaw15.InternNew", spec := "internNew", inPlace := ["slices.overlaps[int]"], recurses := true, apart := false }
def InternNewSaid : Prop := internNewRow.holds Try.pinned (OpenSpec.ofChange internNewSpec)

/-- ITS FALSE NEIGHBOUR: 'it returns false'. Refute it at one input. -/
def internNewWrong : ChangeSpec := { name := "internNew", fn := fun _ => fun
  | [d1, d2] => { results := [.lit (.bool false)], args := [d1, d2] }
  | _ => none }
def InternNewWrongFalsely : Prop := internNewRow.holds Try.pinned (OpenSpec.ofChange internNewWrong)

/-- 'tagcachelaw15.InternMany': WHATEVER THE INPUT: true; the input reads as it did. -/
def internManySpec : ChangeSpec := { name := "internMany", fn := fun _ => fun
  | [d1, d2] => { results := [.lit (.bool true)], args := [d1, d2] }
  | _ => none }
def internManyRow : OpenClaim := { program := "ytanmihifkjhaaaa", sum := "172ce23452d99799f3b33a5306b96a22c24a4eb98795311c9fdd8ded5b54ebe3", func := "tagcache/tagcachelaw15.InternMany", spec := "internMany", inPlace := ["slices.overlaps[int]"], recurses := true, apart := false }
def InternManySaid : Prop := internManyRow.holds Try.pinned (OpenSpec.ofChange internManySpec)

/-- ITS FALSE NEIGHBOUR: 'it returns false'. Refute it at one input. -/
def internManyWrong : ChangeSpec := { name := "internMany", fn := fun _ => fun
  | [d1, d2] => { results := [.lit (.bool false)], args := [d1, d2] }
  | _ => none }
def InternManyWrongFalsely : Prop := internManyRow.holds Try.pinned (OpenSpec.ofChange internManyWrong)

/-- 'tagcachelaw15.InternFull': WHATEVER THE INPUT: true; the input reads as it did. -/
def internFullSpec : ChangeSpec := { name := "internFull", fn := fun _ => fun
  | [d] => { results := [.lit (.bool true)], args := [d] }
  | _ => none }
def internFullRow : OpenClaim := { program := "ytanmihifkjhaaaa", sum := "172ce23452d99799f3b33a5306b96a22c24a4eb98795311c9fdd8ded5b54ebe3", func := "tagcache/tagcachelaw15.InternFull", spec := "internFull", inPlace := ["slices.overlaps[int]"], recurses := true, apart := false }
def InternFullSaid : Prop := internFullRow.holds Try.pinned (OpenSpec.ofChange internFullSpec)

/-- ITS FALSE NEIGHBOUR: 'it returns false'. Refute it at one input. -/
def internFullWrong : ChangeSpec := { name := "internFull", fn := fun _ => fun
  | [d] => { results := [.lit (.bool false)], args := [d] }
  | _ => none }
def InternFullWrongFalsely : Prop := internFullRow.holds Try.pinned (OpenSpec.ofChange internFullWrong)

/-- 'tagcachelaw15.InternHolds': WHATEVER THE INPUT: true; the input reads as it did. -/
def internHoldsSpec : ChangeSpec := { name := "internHolds", fn := fun _ => fun
  | [d1, d2, d3, d4] => { results := [.lit (.bool true)], args := [d1, d2, d3, d4] }
  | _ => none }
def internHoldsRow : OpenClaim := { program := "ytanmihifkjhaaaa", sum := "172ce23452d99799f3b33a5306b96a22c24a4eb98795311c9fdd8ded5b54ebe3", func := "tagcache/tagcachelaw15.InternHolds", spec := "internHolds", inPlace := ["slices.overlaps[int]"], recurses := true, apart := false }
def InternHoldsSaid : Prop := internHoldsRow.holds Try.pinned (OpenSpec.ofChange internHoldsSpec)

/-- ITS FALSE NEIGHBOUR: 'it returns false'. Refute it at one input. -/
def internHoldsWrong : ChangeSpec := { name := "internHolds", fn := fun _ => fun
  | [d1, d2, d3, d4] => { results := [.lit (.bool false)], args := [d1, d2, d3, d4] }
  | _ => none }
def InternHoldsWrongFalsely : Prop := internHoldsRow.holds Try.pinned (OpenSpec.ofChange internHoldsWrong)

/-- 'tagcachelaw15.InternPlays': WHATEVER THE INPUT: true; the input reads as it did. -/
def internPlaysSpec : ChangeSpec := { name := "internPlays", fn := fun _ => fun
  | [d1, d2] => { results := [.lit (.bool true)], args := [d1, d2] }
  | _ => none }
def internPlaysRow : OpenClaim := { program := "ytanmihifkjhaaaa", sum := "172ce23452d99799f3b33a5306b96a22c24a4eb98795311c9fdd8ded5b54ebe3", func := "tagcache/tagcachelaw15.InternPlays", spec := "internPlays", inPlace := ["slices.overlaps[int]"], recurses := true, apart := false }
def InternPlaysSaid : Prop := internPlaysRow.holds Try.pinned (OpenSpec.ofChange internPlaysSpec)

/-- ITS FALSE NEIGHBOUR: 'it returns false'. Refute it at one input. -/
def internPlaysWrong : ChangeSpec := { name := "internPlays", fn := fun _ => fun
  | [d1, d2] => { results := [.lit (.bool false)], args := [d1, d2] }
  | _ => none }
def InternPlaysWrongFalsely : Prop := internPlaysRow.holds Try.pinned (OpenSpec.ofChange internPlaysWrong)

/-- 'tagcachelaw15.InternNil': WHATEVER THE INPUT: true; the input reads as it did. -/
def internNilSpec : ChangeSpec := { name := "internNil", fn := fun _ => fun
  | [d1, d2] => { results := [.lit (.bool true)], args := [d1, d2] }
  | _ => none }
def internNilRow : OpenClaim := { program := "ytanmihifkjhaaaa", sum := "172ce23452d99799f3b33a5306b96a22c24a4eb98795311c9fdd8ded5b54ebe3", func := "tagcache/tagcachelaw15.InternNil", spec := "internNil", inPlace := ["slices.overlaps[int]"], recurses := true, apart := false }
def InternNilSaid : Prop := internNilRow.holds Try.pinned (OpenSpec.ofChange internNilSpec)

/-- ITS FALSE NEIGHBOUR: 'it returns false'. Refute it at one input. -/
def internNilWrong : ChangeSpec := { name := "internNil", fn := fun _ => fun
  | [d1, d2] => { results := [.lit (.bool false)], args := [d1, d2] }
  | _ => none }
def InternNilWrongFalsely : Prop := internNilRow.holds Try.pinned (OpenSpec.ofChange internNilWrong)

/- THE SECOND FORM. 'bulk': how many values and letters a reading holds, each counted each time it is reached (what is shared counts as often as it is met; a slice's spare places count too). A statement '..UptoSaid' is the law's where the arguments, and the package variables that the reading takes, are together of bulk at most 1048576: NARROWER than '..Said'. Prove '..Said' where nothing that the law and all that it calls make is longer than what came in: it says more and counts as full. Else prove '..UptoSaid'. A law counts once. -/
mutual
def uptoBulk {H : Type} : DataW H → Nat
  | .lit (.string bytes) => bytes.length + 1
  | .lit _ => 1
  | .nil => 1
  | .ptr d => uptoBulk d + 1
  | .slice elems spare => uptoBulkAll elems + uptoBulkAll spare + 1
  | .agg parts => uptoBulkAll parts + 1
  | .iface _ d => uptoBulk d + 1
  | .map entries => uptoBulkEntries entries + 1
  | .held _ => 1
def uptoBulkAll {H : Type} : List (DataW H) → Nat
  | [] => 0
  | d :: r => uptoBulk d + uptoBulkAll r
def uptoBulkEntries {H : Type} : List (Lit × DataW H) → Nat
  | [] => 0
  | x :: r => uptoBulkEntry x + uptoBulkEntries r
def uptoBulkEntry {H : Type} : Lit × DataW H → Nat
  | (.string bytes, d) => bytes.length + uptoBulk d + 1
  | (_, d) => uptoBulk d + 1
 end
def uptoSmall : (H : Type) → List (DataW H) → Bool := fun _ ds => decide (uptoBulkAll ds ≤ 1048576)
def OpenSpec.upto (s : _root_.Go.ChangeSpec) : _root_.Go.OpenSpec := { _root_.Go.OpenSpec.ofChange s with cond := some uptoSmall }

/-- 'tagcachelaw15.InternNew', WHERE WHAT IT READS IS OF BULK AT MOST 1048576: true; the input reads as it did. -/
def internNewUptoRow : OpenClaim := { program := "ytanmihifkjhaaaa", sum := "172ce23452d99799f3b33a5306b96a22c24a4eb98795311c9fdd8ded5b54ebe3", func := "tagcache/tagcachelaw15.InternNew", spec := "internNew", inPlace := ["slices.overlaps[int]"], recurses := true, apart := false, narrowed := true }
def InternNewUptoSaid : Prop := internNewUptoRow.holds Try.pinned (OpenSpec.upto internNewSpec)

/-- 'tagcachelaw15.InternMany', WHERE WHAT IT READS IS OF BULK AT MOST 1048576: true; the input reads as it did. -/
def internManyUptoRow : OpenClaim := { program := "ytanmihifkjhaaaa", sum := "172ce23452d99799f3b33a5306b96a22c24a4eb98795311c9fdd8ded5b54ebe3", func := "tagcache/tagcachelaw15.InternMany", spec := "internMany", inPlace := ["slices.overlaps[int]"], recurses := true, apart := false, narrowed := true }
def InternManyUptoSaid : Prop := internManyUptoRow.holds Try.pinned (OpenSpec.upto internManySpec)

/-- 'tagcachelaw15.InternFull', WHERE WHAT IT READS IS OF BULK AT MOST 1048576: true; the input reads as it did. -/
def internFullUptoRow : OpenClaim := { program := "ytanmihifkjhaaaa", sum := "172ce23452d99799f3b33a5306b96a22c24a4eb98795311c9fdd8ded5b54ebe3", func := "tagcache/tagcachelaw15.InternFull", spec := "internFull", inPlace := ["slices.overlaps[int]"], recurses := true, apart := false, narrowed := true }
def InternFullUptoSaid : Prop := internFullUptoRow.holds Try.pinned (OpenSpec.upto internFullSpec)

/-- 'tagcachelaw15.InternHolds', WHERE WHAT IT READS IS OF BULK AT MOST 1048576: true; the input reads as it did. -/
def internHoldsUptoRow : OpenClaim := { program := "ytanmihifkjhaaaa", sum := "172ce23452d99799f3b33a5306b96a22c24a4eb98795311c9fdd8ded5b54ebe3", func := "tagcache/tagcachelaw15.InternHolds", spec := "internHolds", inPlace := ["slices.overlaps[int]"], recurses := true, apart := false, narrowed := true }
def InternHoldsUptoSaid : Prop := internHoldsUptoRow.holds Try.pinned (OpenSpec.upto internHoldsSpec)

/-- 'tagcachelaw15.InternPlays', WHERE WHAT IT READS IS OF BULK AT MOST 1048576: true; the input reads as it did. -/
def internPlaysUptoRow : OpenClaim := { program := "ytanmihifkjhaaaa", sum := "172ce23452d99799f3b33a5306b96a22c24a4eb98795311c9fdd8ded5b54ebe3", func := "tagcache/tagcachelaw15.InternPlays", spec := "internPlays", inPlace := ["slices.overlaps[int]"], recurses := true, apart := false, narrowed := true }
def InternPlaysUptoSaid : Prop := internPlaysUptoRow.holds Try.pinned (OpenSpec.upto internPlaysSpec)

/-- 'tagcachelaw15.InternNil', WHERE WHAT IT READS IS OF BULK AT MOST 1048576: true; the input reads as it did. -/
def internNilUptoRow : OpenClaim := { program := "ytanmihifkjhaaaa", sum := "172ce23452d99799f3b33a5306b96a22c24a4eb98795311c9fdd8ded5b54ebe3", func := "tagcache/tagcachelaw15.InternNil", spec := "internNil", inPlace := ["slices.overlaps[int]"], recurses := true, apart := false, narrowed := true }
def InternNilUptoSaid : Prop := internNilUptoRow.holds Try.pinned (OpenSpec.upto internNilSpec)

end Rows
end Go.Proofs.Ytanmihifkjhaaaa
