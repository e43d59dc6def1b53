/- The document's Add and Release, whatever the name and the number. -/
import Derived.Test.YtfpkeinknhijaaaGreatRefF
namespace Go.Proofs.YtfpkeinknhijaaaGreat
set_option linter.unusedVariables false
open Go.RowKit Go.Maps Go.Sort

section
variable {w : World} {B cap : Nat} {p : Option Addr} {l : Nms} {most R : Int} (h : Rf w B p cap l) (hw : Wf most R l) (hl : l.length ≤ 99999)
include h hw hl
theorem radd_any (hR : R < 2147483647) (s : ByteArray) :
    Calls Tryz.prog 40 #[.agg #[.int .i64 most, .slice p l.length cap], .string s] w (RTab w most p (addM most l s.data.toList).1 (.int .i64 (addM most l s.data.toList).2.1) (addM most l s.data.toList).2.2) := by
  rcases Bool.eq_false_or_eq_true (validB s.data.toList) with hv | hv
  · cases hf : findN l s.data.toList with
    | some k => exact radd_there h (by omega) most s hw.dist hv k hf (by have := (hw.refs k).2; omega)
    | none =>
      by_cases hm : most ≤ liveN l
      · have e : addM most l s.data.toList = (l, 0, 7) := by
          unfold addM
          rw [if_pos hv, hf]
          exact if_pos hm
        rw [e]
        exact radd_full h (by omega) most s hw.dist hv hf hm
      · exact radd_new h hl most s hw.dist hv hf (by omega)
  · have e : addM most l s.data.toList = (l, 0, 2) := by
      unfold addM
      rw [if_neg (by rw [hv]; decide)]
    rw [e]
    exact radd_bad h most s hv
theorem rrel_any (hR : R ≤ 2147483647) (n : Int) :
    Calls Tryz.prog 44 #[.agg #[.int .i64 most, .slice p l.length cap], .int .i64 n] w (RTab w most p (relM l n).1 (.bool (relM l n).2.1) (relM l n).2.2) := by
  rcases Bool.eq_false_or_eq_true (hasM l n) with hn | hn
  · obtain ⟨k, rfl⟩ : ∃ k : Nat, n = k := ⟨n.toNat, by unfold hasM at hn; simp at hn; omega⟩
    exact rrel_yes h (by omega) most k hn (by have := (hw.refs k).2; omega)
  · have e : relM l n = (l, false, 9) := by
      unfold relM
      rw [if_neg (by rw [hn]; decide)]
    rw [e]
    exact rrel_no h (by omega) most n hn
end
end Go.Proofs.YtfpkeinknhijaaaGreat
