/- Contracts of the law package's one, list and parses. -/
import Derived.Test.YtbcfbdkacnnkgaaDoorKeyB
import Derived.Test.YtbcfbdkacnnkgaaDoorKeyE
import Derived.Test.YtbcfbdkacnnkgaaDoorTagsR
import Derived.Test.YtbcfbdkacnnkgaaDoorParseK
namespace Go.Proofs.YtbcfbdkacnnkgaaDoor
set_option linter.unusedVariables false
open Go.RowKit

theorem one_any (s t : ByteArray) (a b : Int) (w : World) :
    Calls Tryd.prog 28 #[.string s, .int .i64 a, .string t, .int .i64 b] w fun e w' => e = .returned (.bool (s.toList == t.toList && a == b)) ∧ w = w' := by
  rcases Bool.eq_false_or_eq_true (s.toList == t.toList) with h | h
  all_goals
    have H := Lib.hid h
    go_enter Tryd.func28, Tryd.ntmps28
    go_wp2
    go_ret
    rw [H.out]
    exact ⟨rfl, rfl⟩

theorem list_any (va vb : Value) (la lb : List Bs) (a b : Int) (w : World) (ha : Reads w va (la.map encStr)) (hb : Reads w vb (lb.map encStr)) :
    Calls Tryd.prog 23 #[va, .int .i64 a, vb, .int .i64 b] w fun e w' => e = .returned (.bool (decide (la = lb) && a == b)) ∧ Below w.heap.size w w' := by
  rcases Bool.eq_false_or_eq_true (decide (la = lb)) with h | h
  all_goals
    have H := Lib.hid h
    clear h
    go_enter Tryd.func23, Tryd.ntmps23
    go_wp2_with (go_at_call 31; refine (refSame_any _ _ la lb _ ha hb).mono ?_; rintro e w' ⟨rfl, hb1⟩; rw [H.out])
    go_ret
    rw [H.out]
    exact ⟨rfl, hb1⟩

theorem parses_any (s t : ByteArray) (b : Int) (hs : s.size ≤ 1000000) (w : World) (hD : Digits w) :
    Calls Tryd.prog 35 #[.string s, .string t, .int .i64 b] w fun e w' => e = .returned (.bool ((kParse s.data.toList).1 == t.toList && (kParse s.data.toList).2 == b)) ∧ Below w.heap.size w w' := by
  go_enter Tryd.func35, Tryd.ntmps35
  go_wp2_with (first
    | (go_at_call 36; refine (keyParse_any s hs _ hD).mono ?_; rintro e w' ⟨rfl, hb1⟩)
    | (go_at_call 28; refine (one_any _ _ _ _ _).mono ?_; rintro e w' ⟨rfl, rfl⟩))
  go_ret
  exact ⟨rfl, hb1⟩
end Go.Proofs.YtbcfbdkacnnkgaaDoor
