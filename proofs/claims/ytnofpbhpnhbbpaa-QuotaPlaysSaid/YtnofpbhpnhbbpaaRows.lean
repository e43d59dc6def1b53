/-
  No cell of these rows narrows 'for every input' (looked for: loops, veiled, ifaces, maps, wideKeys, modest, calm, conditions, laid).
  DERIVED. THE GIVEN ROWS OF THIS SEAT. 4 by the template 'for every input the law returns true; each argument reads behind the call as it read before'; 0 by the template 'total and deterministic' (their statements: YtnofpbhpnhbbpaaTotals.lean).
  GIVEN WITH THE SEED: the statements are not yours to turn. If you find one false, say at which input.
  Laid BY PROGRAM, IN A SANDBOX (cutbox-rows.mjs): the forced cells as the released guide's own fill.sh prints them over the translation 34b8f045c0041755… (all of the seat's roots in one cut). By AI agents, Wed Nov 11 2026. No macro, syntax, notation, axiom, sorry.
-/
import Derived.Test.YtnofpbhpnhbbpaaChecked
import GoSem.Claim
import GoSem.ClaimJoined
import GoSem.ClaimMapViews
import Derived.JoinedTies
import Derived.KernelRfl
namespace Go.Proofs.Ytnofpbhpnhbbpaa
/- THE CELL 'sum', in the pinned program and in every row, IS THE sha256 OF THE DUMP (.gsa) THAT YtnofpbhpnhbbpaaProg.lean LOADS. Nothing in Lean hashes anything: it is a label: what it is worth is what the hold of that sum in a sandbox is worth. -/
noncomputable def Try.pinned : Pinned := { name := "ytnofpbhpnhbbpaa", sum := "34b8f045c00417556cd4cb459bed26aff3a83284e4077582db6cbb3e34037991", checked := Try.checked }
namespace Rows
def none {H : Type} : Left H := { results := [], args := [] }

/-- 'tagcachelaw47.QuotaFulls': WHATEVER THE INPUT: true; the input reads as it did. -/
def quotaFullsSpec : ChangeSpec := { name := "quotaFulls", fn := fun _ => fun
  | [d1, d2] => { results := [.lit (.bool true)], args := [d1, d2] }
  | _ => none }
def quotaFullsRow : OpenClaim := { program := "ytnofpbhpnhbbpaa", sum := "34b8f045c00417556cd4cb459bed26aff3a83284e4077582db6cbb3e34037991", func := "tagcache/tagcachelaw47.QuotaFulls", spec := "quotaFulls", unfollowed := true, recurses := true, apart := false }
def QuotaFullsSaid : Prop := quotaFullsRow.holds Try.pinned (OpenSpec.ofChange quotaFullsSpec)

/-- ITS FALSE NEIGHBOUR: 'it returns false'. Refute it at one input. -/
def quotaFullsWrong : ChangeSpec := { name := "quotaFulls", fn := fun _ => fun
  | [d1, d2] => { results := [.lit (.bool false)], args := [d1, d2] }
  | _ => none }
def QuotaFullsWrongFalsely : Prop := quotaFullsRow.holds Try.pinned (OpenSpec.ofChange quotaFullsWrong)

/-- 'tagcachelaw47.QuotaHolds': WHATEVER THE INPUT: true; the input reads as it did. -/
def quotaHoldsSpec : ChangeSpec := { name := "quotaHolds", fn := fun _ => fun
  | [d1, d2, d3] => { results := [.lit (.bool true)], args := [d1, d2, d3] }
  | _ => none }
def quotaHoldsRow : OpenClaim := { program := "ytnofpbhpnhbbpaa", sum := "34b8f045c00417556cd4cb459bed26aff3a83284e4077582db6cbb3e34037991", func := "tagcache/tagcachelaw47.QuotaHolds", spec := "quotaHolds", inPlace := ["maps.clone"], unfollowed := true, recurses := true, apart := false }
def QuotaHoldsSaid : Prop := quotaHoldsRow.holds Try.pinned (OpenSpec.ofChange quotaHoldsSpec)

/-- ITS FALSE NEIGHBOUR: 'it returns false'. Refute it at one input. -/
def quotaHoldsWrong : ChangeSpec := { name := "quotaHolds", fn := fun _ => fun
  | [d1, d2, d3] => { results := [.lit (.bool false)], args := [d1, d2, d3] }
  | _ => none }
def QuotaHoldsWrongFalsely : Prop := quotaHoldsRow.holds Try.pinned (OpenSpec.ofChange quotaHoldsWrong)

/-- 'tagcachelaw47.QuotaPlays': WHATEVER THE INPUT: true; the input reads as it did. -/
def quotaPlaysSpec : ChangeSpec := { name := "quotaPlays", fn := fun _ => fun
  | [d1, d2] => { results := [.lit (.bool true)], args := [d1, d2] }
  | _ => none }
def quotaPlaysRow : OpenClaim := { program := "ytnofpbhpnhbbpaa", sum := "34b8f045c00417556cd4cb459bed26aff3a83284e4077582db6cbb3e34037991", func := "tagcache/tagcachelaw47.QuotaPlays", spec := "quotaPlays", inPlace := ["maps.clone"], unfollowed := true, recurses := true, apart := false }
def QuotaPlaysSaid : Prop := quotaPlaysRow.holds Try.pinned (OpenSpec.ofChange quotaPlaysSpec)

/-- ITS FALSE NEIGHBOUR: 'it returns false'. Refute it at one input. -/
def quotaPlaysWrong : ChangeSpec := { name := "quotaPlays", fn := fun _ => fun
  | [d1, d2] => { results := [.lit (.bool false)], args := [d1, d2] }
  | _ => none }
def QuotaPlaysWrongFalsely : Prop := quotaPlaysRow.holds Try.pinned (OpenSpec.ofChange quotaPlaysWrong)

/-- 'tagcachelaw47.QuotaNone': WHATEVER THE INPUT: true; the input reads as it did. -/
def quotaNoneSpec : ChangeSpec := { name := "quotaNone", fn := fun _ => fun
  | [d] => { results := [.lit (.bool true)], args := [d] }
  | _ => none }
def quotaNoneRow : OpenClaim := { program := "ytnofpbhpnhbbpaa", sum := "34b8f045c00417556cd4cb459bed26aff3a83284e4077582db6cbb3e34037991", func := "tagcache/tagcachelaw47.QuotaNone", spec := "quotaNone", inPlace := ["maps.clone"], unfollowed := true, recurses := true, apart := false }
def QuotaNoneSaid : Prop := quotaNoneRow.holds Try.pinned (OpenSpec.ofChange quotaNoneSpec)

/-- ITS FALSE NEIGHBOUR: 'it returns false'. Refute it at one input. -/
def quotaNoneWrong : ChangeSpec := { name := "quotaNone", fn := fun _ => fun
  | [d] => { results := [.lit (.bool false)], args := [d] }
  | _ => none }
def QuotaNoneWrongFalsely : Prop := quotaNoneRow.holds Try.pinned (OpenSpec.ofChange quotaNoneWrong)

/- THE SECOND FORM. 'bulk': how many values and letters a reading holds, each counted each time it is reached (what is shared counts as often as it is met; a slice's spare places count too). A statement '..UptoSaid' is the law's where the arguments, and the package variables that the reading takes, are together of bulk at most 1048576: NARROWER than '..Said'. Prove '..Said' where nothing that the law and all that it calls make is longer than what came in: it says more and counts as full. Else prove '..UptoSaid'. A law counts once. -/
mutual
def uptoBulk {H : Type} : DataW H → Nat
  | .lit (.string bytes) => bytes.length + 1
  | .lit _ => 1
  | .nil => 1
  | .ptr d => uptoBulk d + 1
  | .slice elems spare => uptoBulkAll elems + uptoBulkAll spare + 1
  | .agg parts => uptoBulkAll parts + 1
  | .iface _ d => uptoBulk d + 1
  | .map entries => uptoBulkEntries entries + 1
  | .held _ => 1
def uptoBulkAll {H : Type} : List (DataW H) → Nat
  | [] => 0
  | d :: r => uptoBulk d + uptoBulkAll r
def uptoBulkEntries {H : Type} : List (Lit × DataW H) → Nat
  | [] => 0
  | x :: r => uptoBulkEntry x + uptoBulkEntries r
def uptoBulkEntry {H : Type} : Lit × DataW H → Nat
  | (.string bytes, d) => bytes.length + uptoBulk d + 1
  | (_, d) => uptoBulk d + 1
 end
def uptoSmall : (H : Type) → List (DataW H) → Bool := fun _ ds => decide (uptoBulkAll ds ≤ 1048576)
def OpenSpec.upto (s : _root_.Go.ChangeSpec) : _root_.Go.OpenSpec := { _root_.Go.OpenSpec.ofChange s with cond := some uptoSmall }

/-- 'tagcachelaw47.QuotaFulls', WHERE WHAT IT READS IS OF BULK AT MOST 1048576: true; the input reads as it did. -/
def quotaFullsUptoRow : OpenClaim := { program := "ytnofpbhpnhbbpaa", sum := "34b8f045c00417556cd4cb459bed26aff3a83284e4077582db6cbb3e34037991", func := "tagcache/tagcachelaw47.QuotaFulls", spec := "quotaFulls", unfollowed := true, recurses := true, apart := false, narrowed := true }
def QuotaFullsUptoSaid : Prop := quotaFullsUptoRow.holds Try.pinned (OpenSpec.upto quotaFullsSpec)

/-- 'tagcachelaw47.QuotaHolds', WHERE WHAT IT READS IS OF BULK AT MOST 1048576: true; the input reads as it did. -/
def quotaHoldsUptoRow : OpenClaim := { program := "ytnofpbhpnhbbpaa", sum := "34b8f045c00417556cd4cb459bed26aff3a83284e4077582db6cbb3e34037991", func := "tagcache/tagcachelaw47.QuotaHolds", spec := "quotaHolds", inPlace := ["maps.clone"], unfollowed := true, recurses := true, apart := false, narrowed := true }
def QuotaHoldsUptoSaid : Prop := quotaHoldsUptoRow.holds Try.pinned (OpenSpec.upto quotaHoldsSpec)

/-- 'tagcachelaw47.QuotaPlays', WHERE WHAT IT READS IS OF BULK AT MOST 1048576: true; the input reads as it did. -/
def quotaPlaysUptoRow : OpenClaim := { program := "ytnofpbhpnhbbpaa", sum := "34b8f045c00417556cd4cb459bed26aff3a83284e4077582db6cbb3e34037991", func := "tagcache/tagcachelaw47.QuotaPlays", spec := "quotaPlays", inPlace := ["maps.clone"], unfollowed := true, recurses := true, apart := false, narrowed := true }
def QuotaPlaysUptoSaid : Prop := quotaPlaysUptoRow.holds Try.pinned (OpenSpec.upto quotaPlaysSpec)

/-- 'tagcachelaw47.QuotaNone', WHERE WHAT IT READS IS OF BULK AT MOST 1048576: true; the input reads as it did. -/
def quotaNoneUptoRow : OpenClaim := { program := "ytnofpbhpnhbbpaa", sum := "34b8f045c00417556cd4cb459bed26aff3a83284e4077582db6cbb3e34037991", func := "tagcache/tagcachelaw47.QuotaNone", spec := "quotaNone", inPlace := ["maps.clone"], unfollowed := true, recurses := true, apart := false, narrowed := true }
def QuotaNoneUptoSaid : Prop := quotaNoneUptoRow.holds Try.pinned (OpenSpec.upto quotaNoneSpec)

end Rows
end Go.Proofs.Ytnofpbhpnhbbpaa
