/- StampHolds, for all arguments. -/
import Derived.Test.YtckdfnlleaifcaaStmS
import Derived.OpenShut
import Derived.Test.YtckdfnlleaifcaaOpenS
namespace Go.Proofs.Ytckdfnlleaifcaa
set_option linter.unusedVariables false
open Go.RowKit Go.Maps Go.Sort

set_option maxHeartbeats 4000000 in
set_option maxRecDepth 100000 in
theorem holds_skip (gr : Nat) (q : Option Addr) (cap n : Nat) (hn : n ≤ 140737488355328) (tag : Int) (w : World) (hno : ¬ (gr ≤ 1099511627776 ∧ n ≤ 50 ∧ tagB tag = true)) :
    Calls Try.prog 3 #[.int .u64 (gr : Int), .slice q n cap, .int .i64 tag] w fun e w' => e = .returned (.bool true) ∧ Below w.heap.size w w' := by
  have CF := few_any q cap n hn w
  have CG := rgrace_any gr w
  have CT := rtag_any tag w
  have key : ∀ (b1 b2 b3 : Bool), (b1 && b2 && b3) = false →
      Calls Try.prog 8 #[.int .u64 (gr : Int)] w (fun e w' => e = .returned (.bool b1) ∧ w = w') →
      Calls Try.prog 9 #[.slice q n cap] w (fun e w' => e = .returned (.bool b2) ∧ w = w') →
      Calls Try.prog 10 #[.int .i64 tag] w (fun e w' => e = .returned (.bool b3) ∧ w = w') →
      Calls Try.prog 3 #[.int .u64 (gr : Int), .slice q n cap, .int .i64 tag] w fun e w' => e = .returned (.bool true) ∧ Below w.heap.size w w' := by
    clear CF CG CT hno hn
    intro b1 b2 b3 hb CG CF CT
    have CG := Lib.hid CG
    have CF := Lib.hid CF
    have CT := Lib.hid CT
    cases b1 <;> cases b2 <;> cases b3 <;> first | (simp at hb; done) | skip
    all_goals
      clear hb
      go_enter Try.func3, Try.ntmps3
      go_wp2_with (first
        | (go_at_call 9; refine CF.out.mono ?_; rintro e w1 ⟨rfl, rfl⟩)
        | (go_at_call 8; refine CG.out.mono ?_; rintro e w1 ⟨rfl, rfl⟩)
        | (go_at_call 10; refine CT.out.mono ?_; rintro e w1 ⟨rfl, rfl⟩))
      refine (known_any _).mono ?_
      rintro e w2 ⟨rfl, b2⟩
      go_wp2_with fail
      go_ret
      exact ⟨rfl, b2⟩
  refine key _ _ _ ?_ CG CF CT
  rw [Bool.eq_false_iff]
  intro hb
  simp only [Bool.and_eq_true, decide_eq_true_eq] at hb
  exact hno ⟨hb.1.1, hb.1.2, hb.2⟩
theorem holds_walk (gr : Int) (hb : 0 ≤ gr ∧ gr ≤ 18446744073709551615) (q : Option Addr) (cap : Nat) (L : List SAc) (hn : L.length ≤ 140737488355328) (hw : ∀ x ∈ L, (Lit.int .i64 x.1).wf = true ∧ (Lit.int .i64 x.2.1).wf = true ∧ (Lit.int .u64 x.2.2).wf = true) (tag : Int) (w : World) (hR : SActsOf w q L) :
    Calls Try.prog 3 #[.int .u64 gr, .slice q L.length cap, .int .i64 tag] w fun e w' => e = .returned (.bool true) ∧ Below w.heap.size w w' := by
  obtain ⟨G, rfl⟩ : ∃ G : Nat, gr = (G : Int) := ⟨gr.toNat, by omega⟩
  by_cases h : G ≤ 1099511627776 ∧ L.length ≤ 50 ∧ tagB tag = true
  · obtain ⟨h1, h2, h3⟩ := h
    obtain ⟨j, rfl, hj, _⟩ := tagB_nat h3
    exact holds_some G h1 q cap L h2 (fun X hX => bounds_u64 (hw X hX).2.2) j hj w hR
  · exact holds_skip G q cap L.length hn tag w h
end Go.Proofs.Ytckdfnlleaifcaa
