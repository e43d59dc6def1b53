/-
  NARROWER THAN 'FOR EVERY INPUT', by the rows' own cells (each row's printed sentence says how): KeyNames: laid · KeySegments: laid · KeyJoins: laid · KeyTags: laid · KeyTexts: laid · KeyParses: laid · KeyHolds: laid.
  DERIVED. THE GIVEN ROWS OF THIS SEAT. 7 by the template 'for every input the law returns true; each argument reads behind the call as it read before'; 0 by the template 'total and deterministic' (their statements: YtbcfbdkacnnkgaaDoorTotals.lean).
  GIVEN WITH THE SEED: the statements are not yours to turn. If you find one false, say at which input.
  Laid BY PROGRAM, IN A SANDBOX (cutbox-rows.mjs): the forced cells as the released guide's own fill.sh prints them over the translation 1890d0365b820f88… (all of the seat's roots in one cut). By AI agents, Wed Nov 11 2026. No macro, syntax, notation, axiom, sorry.
-/
import Derived.Test.YtbcfbdkacnnkgaaDoorChecked
import GoSem.PinnedTables
import GoSem.Claim
import GoSem.ClaimJoined
import GoSem.ClaimMapViews
import Derived.JoinedTies
import Derived.KernelRfl
namespace Go.Proofs.YtbcfbdkacnnkgaaDoor
/- THE CELL 'sum', in the pinned program and in every row, IS THE sha256 OF THE DUMP (.gsa) THAT YtbcfbdkacnnkgaaDoorProg.lean LOADS. Nothing in Lean hashes anything: it is a label: what it is worth is what the hold of that sum in a sandbox is worth. -/
noncomputable def Tryd.pinned : Pinned := { name := "ytbcfbdkacnnkgaadoor", sum := "1890d0365b820f88df57fefcb235035f8c83e7a4433b5cf9ee77802501923a41", checked := Tryd.checked }
namespace Rows
def none {H : Type} : Left H := { results := [], args := [] }

/- WHAT THE LISTED PACKAGE-LEVEL VARIABLES READ AS WHEN THE CALL BEGINS. Each datum BY PROGRAM (the guide's laid-datum.mjs) off the statement by which the dump's own 'gosem.cut.vars' lays the variable. In a bare row this is a premise. The card (YtbcfbdkacnnkgaaDoorCards.lean) ties it to the program's text. -/
def laid_unicode_utf8_acceptRanges {H : Type} : DataW H := .agg [.agg [.lit (.int .u8 128), .lit (.int .u8 191)], .agg [.lit (.int .u8 160), .lit (.int .u8 191)], .agg [.lit (.int .u8 128), .lit (.int .u8 159)], .agg [.lit (.int .u8 144), .lit (.int .u8 191)], .agg [.lit (.int .u8 128), .lit (.int .u8 143)], .agg [.lit (.int .u8 0), .lit (.int .u8 0)], .agg [.lit (.int .u8 0), .lit (.int .u8 0)], .agg [.lit (.int .u8 0), .lit (.int .u8 0)], .agg [.lit (.int .u8 0), .lit (.int .u8 0)], .agg [.lit (.int .u8 0), .lit (.int .u8 0)], .agg [.lit (.int .u8 0), .lit (.int .u8 0)], .agg [.lit (.int .u8 0), .lit (.int .u8 0)], .agg [.lit (.int .u8 0), .lit (.int .u8 0)], .agg [.lit (.int .u8 0), .lit (.int .u8 0)], .agg [.lit (.int .u8 0), .lit (.int .u8 0)], .agg [.lit (.int .u8 0), .lit (.int .u8 0)]]
def laid_tagcache_key_digits {H : Type} : DataW H := .agg [.lit (.int .u8 48), .lit (.int .u8 49), .lit (.int .u8 50), .lit (.int .u8 51), .lit (.int .u8 52), .lit (.int .u8 53), .lit (.int .u8 54), .lit (.int .u8 55), .lit (.int .u8 56), .lit (.int .u8 57), .lit (.int .u8 97), .lit (.int .u8 98), .lit (.int .u8 99), .lit (.int .u8 100), .lit (.int .u8 101), .lit (.int .u8 102)]
/-- One of Go's own tables, pinned by name: the form's constant. -/
def laid_unicode_utf8_first : DataW Unit := Go.Pinned.utf8First

/-- 'tagcachelaw02.KeyNames': WHATEVER THE INPUT: true; the input reads as it did. -/
def keyNamesSpec : ChangeSpec := { name := "keyNames", fn := fun _ => fun
  | [d1, d2] => { results := [.lit (.bool true)], args := [d1, d2] }
  | _ => none }
def keyNamesRow : OpenClaim := { program := "ytbcfbdkacnnkgaadoor", sum := "1890d0365b820f88df57fefcb235035f8c83e7a4433b5cf9ee77802501923a41", func := "tagcache/tagcachelaw02.KeyNames", spec := "keyNames", inPlace := ["internal/bytealg.CountString", "internal/bytealg.IndexByteString", "internal/bytealg.IndexString", "internal/abi.NoEscape", "internal/bytealg.MakeNoZero"], recurses := true, named := ["unicode/utf8.first", "unicode/utf8.acceptRanges", "internal/bytealg.MaxLen", "tagcache/key.digits"], apart := false, laid := [("unicode/utf8.acceptRanges", laid_unicode_utf8_acceptRanges), ("tagcache/key.digits", laid_tagcache_key_digits), ("unicode/utf8.first", laid_unicode_utf8_first)] }
def KeyNamesSaid : Prop := keyNamesRow.holds Tryd.pinned (OpenSpec.ofChange keyNamesSpec)

/-- ITS FALSE NEIGHBOUR: 'it returns false'. Refute it at one input. -/
def keyNamesWrong : ChangeSpec := { name := "keyNames", fn := fun _ => fun
  | [d1, d2] => { results := [.lit (.bool false)], args := [d1, d2] }
  | _ => none }
def KeyNamesWrongFalsely : Prop := keyNamesRow.holds Tryd.pinned (OpenSpec.ofChange keyNamesWrong)

/-- 'tagcachelaw02.KeySegments': WHATEVER THE INPUT: true; the input reads as it did. -/
def keySegmentsSpec : ChangeSpec := { name := "keySegments", fn := fun _ => fun
  | [d] => { results := [.lit (.bool true)], args := [d] }
  | _ => none }
def keySegmentsRow : OpenClaim := { program := "ytbcfbdkacnnkgaadoor", sum := "1890d0365b820f88df57fefcb235035f8c83e7a4433b5cf9ee77802501923a41", func := "tagcache/tagcachelaw02.KeySegments", spec := "keySegments", inPlace := ["internal/bytealg.CountString", "internal/bytealg.IndexByteString", "internal/bytealg.IndexString", "internal/abi.NoEscape", "internal/bytealg.MakeNoZero"], recurses := true, named := ["unicode/utf8.first", "unicode/utf8.acceptRanges", "internal/bytealg.MaxLen", "tagcache/key.digits"], apart := false, laid := [("unicode/utf8.acceptRanges", laid_unicode_utf8_acceptRanges), ("tagcache/key.digits", laid_tagcache_key_digits), ("unicode/utf8.first", laid_unicode_utf8_first)] }
def KeySegmentsSaid : Prop := keySegmentsRow.holds Tryd.pinned (OpenSpec.ofChange keySegmentsSpec)

/-- ITS FALSE NEIGHBOUR: 'it returns false'. Refute it at one input. -/
def keySegmentsWrong : ChangeSpec := { name := "keySegments", fn := fun _ => fun
  | [d] => { results := [.lit (.bool false)], args := [d] }
  | _ => none }
def KeySegmentsWrongFalsely : Prop := keySegmentsRow.holds Tryd.pinned (OpenSpec.ofChange keySegmentsWrong)

/-- 'tagcachelaw02.KeyJoins': WHATEVER THE INPUT: true; the input reads as it did. -/
def keyJoinsSpec : ChangeSpec := { name := "keyJoins", fn := fun _ => fun
  | [d] => { results := [.lit (.bool true)], args := [d] }
  | _ => none }
def keyJoinsRow : OpenClaim := { program := "ytbcfbdkacnnkgaadoor", sum := "1890d0365b820f88df57fefcb235035f8c83e7a4433b5cf9ee77802501923a41", func := "tagcache/tagcachelaw02.KeyJoins", spec := "keyJoins", inPlace := ["internal/bytealg.CountString", "internal/bytealg.IndexByteString", "internal/bytealg.IndexString", "internal/abi.NoEscape", "internal/bytealg.MakeNoZero"], recurses := true, named := ["unicode/utf8.first", "unicode/utf8.acceptRanges", "internal/bytealg.MaxLen", "tagcache/key.digits"], apart := false, laid := [("unicode/utf8.acceptRanges", laid_unicode_utf8_acceptRanges), ("tagcache/key.digits", laid_tagcache_key_digits), ("unicode/utf8.first", laid_unicode_utf8_first)] }
def KeyJoinsSaid : Prop := keyJoinsRow.holds Tryd.pinned (OpenSpec.ofChange keyJoinsSpec)

/-- ITS FALSE NEIGHBOUR: 'it returns false'. Refute it at one input. -/
def keyJoinsWrong : ChangeSpec := { name := "keyJoins", fn := fun _ => fun
  | [d] => { results := [.lit (.bool false)], args := [d] }
  | _ => none }
def KeyJoinsWrongFalsely : Prop := keyJoinsRow.holds Tryd.pinned (OpenSpec.ofChange keyJoinsWrong)

/-- 'tagcachelaw02.KeyTags': WHATEVER THE INPUT: true; the input reads as it did. -/
def keyTagsSpec : ChangeSpec := { name := "keyTags", fn := fun _ => fun
  | [d] => { results := [.lit (.bool true)], args := [d] }
  | _ => none }
def keyTagsRow : OpenClaim := { program := "ytbcfbdkacnnkgaadoor", sum := "1890d0365b820f88df57fefcb235035f8c83e7a4433b5cf9ee77802501923a41", func := "tagcache/tagcachelaw02.KeyTags", spec := "keyTags", inPlace := ["internal/bytealg.CountString", "internal/bytealg.IndexByteString", "internal/bytealg.IndexString", "internal/abi.NoEscape", "internal/bytealg.MakeNoZero"], recurses := true, named := ["unicode/utf8.first", "unicode/utf8.acceptRanges", "internal/bytealg.MaxLen", "tagcache/key.digits"], apart := false, laid := [("unicode/utf8.acceptRanges", laid_unicode_utf8_acceptRanges), ("tagcache/key.digits", laid_tagcache_key_digits), ("unicode/utf8.first", laid_unicode_utf8_first)] }
def KeyTagsSaid : Prop := keyTagsRow.holds Tryd.pinned (OpenSpec.ofChange keyTagsSpec)

/-- ITS FALSE NEIGHBOUR: 'it returns false'. Refute it at one input. -/
def keyTagsWrong : ChangeSpec := { name := "keyTags", fn := fun _ => fun
  | [d] => { results := [.lit (.bool false)], args := [d] }
  | _ => none }
def KeyTagsWrongFalsely : Prop := keyTagsRow.holds Tryd.pinned (OpenSpec.ofChange keyTagsWrong)

/-- 'tagcachelaw02.KeyTexts': WHATEVER THE INPUT: true; the input reads as it did. -/
def keyTextsSpec : ChangeSpec := { name := "keyTexts", fn := fun _ => fun
  | [d] => { results := [.lit (.bool true)], args := [d] }
  | _ => none }
def keyTextsRow : OpenClaim := { program := "ytbcfbdkacnnkgaadoor", sum := "1890d0365b820f88df57fefcb235035f8c83e7a4433b5cf9ee77802501923a41", func := "tagcache/tagcachelaw02.KeyTexts", spec := "keyTexts", inPlace := ["internal/bytealg.CountString", "internal/bytealg.IndexByteString", "internal/bytealg.IndexString", "internal/abi.NoEscape", "internal/bytealg.MakeNoZero"], recurses := true, named := ["unicode/utf8.first", "unicode/utf8.acceptRanges", "internal/bytealg.MaxLen", "tagcache/key.digits"], apart := false, laid := [("unicode/utf8.acceptRanges", laid_unicode_utf8_acceptRanges), ("tagcache/key.digits", laid_tagcache_key_digits), ("unicode/utf8.first", laid_unicode_utf8_first)] }
def KeyTextsSaid : Prop := keyTextsRow.holds Tryd.pinned (OpenSpec.ofChange keyTextsSpec)

/-- ITS FALSE NEIGHBOUR: 'it returns false'. Refute it at one input. -/
def keyTextsWrong : ChangeSpec := { name := "keyTexts", fn := fun _ => fun
  | [d] => { results := [.lit (.bool false)], args := [d] }
  | _ => none }
def KeyTextsWrongFalsely : Prop := keyTextsRow.holds Tryd.pinned (OpenSpec.ofChange keyTextsWrong)

/-- 'tagcachelaw02.KeyParses': WHATEVER THE INPUT: true; the input reads as it did. -/
def keyParsesSpec : ChangeSpec := { name := "keyParses", fn := fun _ => fun
  | [d] => { results := [.lit (.bool true)], args := [d] }
  | _ => none }
def keyParsesRow : OpenClaim := { program := "ytbcfbdkacnnkgaadoor", sum := "1890d0365b820f88df57fefcb235035f8c83e7a4433b5cf9ee77802501923a41", func := "tagcache/tagcachelaw02.KeyParses", spec := "keyParses", inPlace := ["internal/bytealg.CountString", "internal/bytealg.IndexByteString", "internal/bytealg.IndexString", "internal/abi.NoEscape", "internal/bytealg.MakeNoZero"], recurses := true, named := ["unicode/utf8.first", "unicode/utf8.acceptRanges", "internal/bytealg.MaxLen", "tagcache/key.digits"], apart := false, laid := [("unicode/utf8.acceptRanges", laid_unicode_utf8_acceptRanges), ("tagcache/key.digits", laid_tagcache_key_digits), ("unicode/utf8.first", laid_unicode_utf8_first)] }
def KeyParsesSaid : Prop := keyParsesRow.holds Tryd.pinned (OpenSpec.ofChange keyParsesSpec)

/-- ITS FALSE NEIGHBOUR: 'it returns false'. Refute it at one input. -/
def keyParsesWrong : ChangeSpec := { name := "keyParses", fn := fun _ => fun
  | [d] => { results := [.lit (.bool false)], args := [d] }
  | _ => none }
def KeyParsesWrongFalsely : Prop := keyParsesRow.holds Tryd.pinned (OpenSpec.ofChange keyParsesWrong)

/-- 'tagcachelaw02.KeyHolds': WHATEVER THE INPUT: true; the input reads as it did. -/
def keyHoldsSpec : ChangeSpec := { name := "keyHolds", fn := fun _ => fun
  | [d1, d2, d3] => { results := [.lit (.bool true)], args := [d1, d2, d3] }
  | _ => none }
def keyHoldsRow : OpenClaim := { program := "ytbcfbdkacnnkgaadoor", sum := "1890d0365b820f88df57fefcb235035f8c83e7a4433b5cf9ee77802501923a41", func := "tagcache/tagcachelaw02.KeyHolds", spec := "keyHolds", inPlace := ["internal/bytealg.CountString", "internal/bytealg.IndexByteString", "internal/bytealg.IndexString", "internal/abi.NoEscape", "internal/bytealg.MakeNoZero"], recurses := true, named := ["unicode/utf8.first", "unicode/utf8.acceptRanges", "internal/bytealg.MaxLen", "tagcache/key.digits"], apart := false, laid := [("unicode/utf8.acceptRanges", laid_unicode_utf8_acceptRanges), ("tagcache/key.digits", laid_tagcache_key_digits), ("unicode/utf8.first", laid_unicode_utf8_first)] }
def KeyHoldsSaid : Prop := keyHoldsRow.holds Tryd.pinned (OpenSpec.ofChange keyHoldsSpec)

/-- ITS FALSE NEIGHBOUR: 'it returns false'. Refute it at one input. -/
def keyHoldsWrong : ChangeSpec := { name := "keyHolds", fn := fun _ => fun
  | [d1, d2, d3] => { results := [.lit (.bool false)], args := [d1, d2, d3] }
  | _ => none }
def KeyHoldsWrongFalsely : Prop := keyHoldsRow.holds Tryd.pinned (OpenSpec.ofChange keyHoldsWrong)

/- THE SECOND FORM. 'bulk': how many values and letters a reading holds, each counted each time it is reached (what is shared counts as often as it is met; a slice's spare places count too). A statement '..UptoSaid' is the law's where the arguments, and the package variables that the reading takes, are together of bulk at most 1048576: NARROWER than '..Said'. Prove '..Said' where nothing that the law and all that it calls make is longer than what came in: it says more and counts as full. Else prove '..UptoSaid'. A law counts once. -/
mutual
def uptoBulk {H : Type} : DataW H → Nat
  | .lit (.string bytes) => bytes.length + 1
  | .lit _ => 1
  | .nil => 1
  | .ptr d => uptoBulk d + 1
  | .slice elems spare => uptoBulkAll elems + uptoBulkAll spare + 1
  | .agg parts => uptoBulkAll parts + 1
  | .iface _ d => uptoBulk d + 1
  | .map entries => uptoBulkEntries entries + 1
  | .held _ => 1
def uptoBulkAll {H : Type} : List (DataW H) → Nat
  | [] => 0
  | d :: r => uptoBulk d + uptoBulkAll r
def uptoBulkEntries {H : Type} : List (Lit × DataW H) → Nat
  | [] => 0
  | x :: r => uptoBulkEntry x + uptoBulkEntries r
def uptoBulkEntry {H : Type} : Lit × DataW H → Nat
  | (.string bytes, d) => bytes.length + uptoBulk d + 1
  | (_, d) => uptoBulk d + 1
 end
def uptoSmall : (H : Type) → List (DataW H) → Bool := fun _ ds => decide (uptoBulkAll ds ≤ 1048576)
def OpenSpec.upto (s : _root_.Go.ChangeSpec) : _root_.Go.OpenSpec := { _root_.Go.OpenSpec.ofChange s with cond := some uptoSmall }

/-- 'tagcachelaw02.KeyNames', WHERE WHAT IT READS IS OF BULK AT MOST 1048576: true; the input reads as it did. -/
def keyNamesUptoRow : OpenClaim := { program := "ytbcfbdkacnnkgaadoor", sum := "1890d0365b820f88df57fefcb235035f8c83e7a4433b5cf9ee77802501923a41", func := "tagcache/tagcachelaw02.KeyNames", spec := "keyNames", inPlace := ["internal/bytealg.CountString", "internal/bytealg.IndexByteString", "internal/bytealg.IndexString", "internal/abi.NoEscape", "internal/bytealg.MakeNoZero"], recurses := true, named := ["unicode/utf8.first", "unicode/utf8.acceptRanges", "internal/bytealg.MaxLen", "tagcache/key.digits"], apart := false, laid := [("unicode/utf8.acceptRanges", laid_unicode_utf8_acceptRanges), ("tagcache/key.digits", laid_tagcache_key_digits), ("unicode/utf8.first", laid_unicode_utf8_first)], narrowed := true }
def KeyNamesUptoSaid : Prop := keyNamesUptoRow.holds Tryd.pinned (OpenSpec.upto keyNamesSpec)

/-- 'tagcachelaw02.KeySegments', WHERE WHAT IT READS IS OF BULK AT MOST 1048576: true; the input reads as it did. -/
def keySegmentsUptoRow : OpenClaim := { program := "ytbcfbdkacnnkgaadoor", sum := "1890d0365b820f88df57fefcb235035f8c83e7a4433b5cf9ee77802501923a41", func := "tagcache/tagcachelaw02.KeySegments", spec := "keySegments", inPlace := ["internal/bytealg.CountString", "internal/bytealg.IndexByteString", "internal/bytealg.IndexString", "internal/abi.NoEscape", "internal/bytealg.MakeNoZero"], recurses := true, named := ["unicode/utf8.first", "unicode/utf8.acceptRanges", "internal/bytealg.MaxLen", "tagcache/key.digits"], apart := false, laid := [("unicode/utf8.acceptRanges", laid_unicode_utf8_acceptRanges), ("tagcache/key.digits", laid_tagcache_key_digits), ("unicode/utf8.first", laid_unicode_utf8_first)], narrowed := true }
def KeySegmentsUptoSaid : Prop := keySegmentsUptoRow.holds Tryd.pinned (OpenSpec.upto keySegmentsSpec)

/-- 'tagcachelaw02.KeyJoins', WHERE WHAT IT READS IS OF BULK AT MOST 1048576: true; the input reads as it did. -/
def keyJoinsUptoRow : OpenClaim := { program := "ytbcfbdkacnnkgaadoor", sum := "1890d0365b820f88df57fefcb235035f8c83e7a4433b5cf9ee77802501923a41", func := "tagcache/tagcachelaw02.KeyJoins", spec := "keyJoins", inPlace := ["internal/bytealg.CountString", "internal/bytealg.IndexByteString", "internal/bytealg.IndexString", "internal/abi.NoEscape", "internal/bytealg.MakeNoZero"], recurses := true, named := ["unicode/utf8.first", "unicode/utf8.acceptRanges", "internal/bytealg.MaxLen", "tagcache/key.digits"], apart := false, laid := [("unicode/utf8.acceptRanges", laid_unicode_utf8_acceptRanges), ("tagcache/key.digits", laid_tagcache_key_digits), ("unicode/utf8.first", laid_unicode_utf8_first)], narrowed := true }
def KeyJoinsUptoSaid : Prop := keyJoinsUptoRow.holds Tryd.pinned (OpenSpec.upto keyJoinsSpec)

/-- 'tagcachelaw02.KeyTags', WHERE WHAT IT READS IS OF BULK AT MOST 1048576: true; the input reads as it did. -/
def keyTagsUptoRow : OpenClaim := { program := "ytbcfbdkacnnkgaadoor", sum := "1890d0365b820f88df57fefcb235035f8c83e7a4433b5cf9ee77802501923a41", func := "tagcache/tagcachelaw02.KeyTags", spec := "keyTags", inPlace := ["internal/bytealg.CountString", "internal/bytealg.IndexByteString", "internal/bytealg.IndexString", "internal/abi.NoEscape", "internal/bytealg.MakeNoZero"], recurses := true, named := ["unicode/utf8.first", "unicode/utf8.acceptRanges", "internal/bytealg.MaxLen", "tagcache/key.digits"], apart := false, laid := [("unicode/utf8.acceptRanges", laid_unicode_utf8_acceptRanges), ("tagcache/key.digits", laid_tagcache_key_digits), ("unicode/utf8.first", laid_unicode_utf8_first)], narrowed := true }
def KeyTagsUptoSaid : Prop := keyTagsUptoRow.holds Tryd.pinned (OpenSpec.upto keyTagsSpec)

/-- 'tagcachelaw02.KeyTexts', WHERE WHAT IT READS IS OF BULK AT MOST 1048576: true; the input reads as it did. -/
def keyTextsUptoRow : OpenClaim := { program := "ytbcfbdkacnnkgaadoor", sum := "1890d0365b820f88df57fefcb235035f8c83e7a4433b5cf9ee77802501923a41", func := "tagcache/tagcachelaw02.KeyTexts", spec := "keyTexts", inPlace := ["internal/bytealg.CountString", "internal/bytealg.IndexByteString", "internal/bytealg.IndexString", "internal/abi.NoEscape", "internal/bytealg.MakeNoZero"], recurses := true, named := ["unicode/utf8.first", "unicode/utf8.acceptRanges", "internal/bytealg.MaxLen", "tagcache/key.digits"], apart := false, laid := [("unicode/utf8.acceptRanges", laid_unicode_utf8_acceptRanges), ("tagcache/key.digits", laid_tagcache_key_digits), ("unicode/utf8.first", laid_unicode_utf8_first)], narrowed := true }
def KeyTextsUptoSaid : Prop := keyTextsUptoRow.holds Tryd.pinned (OpenSpec.upto keyTextsSpec)

/-- 'tagcachelaw02.KeyParses', WHERE WHAT IT READS IS OF BULK AT MOST 1048576: true; the input reads as it did. -/
def keyParsesUptoRow : OpenClaim := { program := "ytbcfbdkacnnkgaadoor", sum := "1890d0365b820f88df57fefcb235035f8c83e7a4433b5cf9ee77802501923a41", func := "tagcache/tagcachelaw02.KeyParses", spec := "keyParses", inPlace := ["internal/bytealg.CountString", "internal/bytealg.IndexByteString", "internal/bytealg.IndexString", "internal/abi.NoEscape", "internal/bytealg.MakeNoZero"], recurses := true, named := ["unicode/utf8.first", "unicode/utf8.acceptRanges", "internal/bytealg.MaxLen", "tagcache/key.digits"], apart := false, laid := [("unicode/utf8.acceptRanges", laid_unicode_utf8_acceptRanges), ("tagcache/key.digits", laid_tagcache_key_digits), ("unicode/utf8.first", laid_unicode_utf8_first)], narrowed := true }
def KeyParsesUptoSaid : Prop := keyParsesUptoRow.holds Tryd.pinned (OpenSpec.upto keyParsesSpec)

/-- 'tagcachelaw02.KeyHolds', WHERE WHAT IT READS IS OF BULK AT MOST 1048576: true; the input reads as it did. -/
def keyHoldsUptoRow : OpenClaim := { program := "ytbcfbdkacnnkgaadoor", sum := "1890d0365b820f88df57fefcb235035f8c83e7a4433b5cf9ee77802501923a41", func := "tagcache/tagcachelaw02.KeyHolds", spec := "keyHolds", inPlace := ["internal/bytealg.CountString", "internal/bytealg.IndexByteString", "internal/bytealg.IndexString", "internal/abi.NoEscape", "internal/bytealg.MakeNoZero"], recurses := true, named := ["unicode/utf8.first", "unicode/utf8.acceptRanges", "internal/bytealg.MaxLen", "tagcache/key.digits"], apart := false, laid := [("unicode/utf8.acceptRanges", laid_unicode_utf8_acceptRanges), ("tagcache/key.digits", laid_tagcache_key_digits), ("unicode/utf8.first", laid_unicode_utf8_first)], narrowed := true }
def KeyHoldsUptoSaid : Prop := keyHoldsUptoRow.holds Tryd.pinned (OpenSpec.upto keyHoldsSpec)

end Rows
end Go.Proofs.YtbcfbdkacnnkgaaDoor
