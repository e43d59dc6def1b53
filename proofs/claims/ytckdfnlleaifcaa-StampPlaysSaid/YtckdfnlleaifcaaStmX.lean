/- StampNew. -/
import Derived.Test.YtckdfnlleaifcaaStmW
import Derived.Test.YtckdfnlleaifcaaStmO
import Derived.OpenShut
namespace Go.Proofs.Ytckdfnlleaifcaa
set_option linter.unusedVariables false
open Go.RowKit Go.Maps Go.Sort

set_option maxHeartbeats 4000000 in
set_option maxRecDepth 100000 in
theorem new_walk (gr : Int) (hb : 0 ≤ gr ∧ gr ≤ 18446744073709551615) (w : World) :
    Calls Try.prog 4 #[.int .u64 gr] w fun e w' => e = .returned (.bool true) ∧ Below w.heap.size w w' := by
  obtain ⟨G, rfl⟩ : ∃ G : Nat, gr = (G : Int) := ⟨gr.toNat, by omega⟩
  have HG := Lib.hid (fun w' => rgrace_any G w')
  clear hb
  by_cases h : G ≤ 1099511627776
  · rw [decide_eq_true h] at HG
    have HN := Lib.hid (new_ok G h w)
    clear h
    go_enter Try.func4, Try.ntmps4
    go_wp2_with fail
    refine HN.out.mono ?_
    rintro e w1 ⟨g, O, rfl, h2, h3, h4⟩
    have S1 := Lib.hid h2
    have H3 := Lib.hid h3
    have H4 := Lib.hid h4
    have HI := Lib.hid (is_any (p := none) (cap := 0) (E := []) h2 ⟨RowAt.nil _ _, (fun e h => by cases h), Nat.zero_le _, (fun e h => by cases h)⟩ rfl (fun z hz => by simp [Value.ownBlock] at hz) (fun e h => by cases h) 0 (by decide))
    clear h2 h3 h4 HN
    go_wp2_with (go_at_call 8; refine (HG.out _).mono ?_; rintro e w' ⟨rfl, rfl⟩)
    refine HI.out.mono ?_
    rintro e w2 ⟨rfl, s2, o2⟩
    have HB : Hid (Below w.heap.size w w2) := H4.out.trans (o2.below H3.out H4.out.size)
    clear s2 o2 HI
    go_wp2_with fail
    refine (known_any _).mono ?_
    rintro e w3 ⟨rfl, b3⟩
    go_wp2_with fail
    go_ret
    exact ⟨rfl, HB.out.trans (b3.mono HB.out.size)⟩
  · rw [decide_eq_false h] at HG
    have HN := Lib.hid (new_bad G (by omega) w)
    clear h
    go_enter Try.func4, Try.ntmps4
    go_wp2_with fail
    refine HN.out.mono ?_
    rintro e w1 ⟨rfl, rfl⟩
    go_wp2_with (go_at_call 8; refine (HG.out _).mono ?_; rintro e w' ⟨rfl, rfl⟩)
    refine (known_any _).mono ?_
    rintro e w3 ⟨rfl, b3⟩
    go_wp2_with fail
    go_ret
    exact ⟨rfl, b3⟩
end Go.Proofs.Ytckdfnlleaifcaa
