/- ReverseNew. -/
import Derived.Test.YtfpkeinknhijaaaGreatRevZ
namespace Go.Proofs.YtfpkeinknhijaaaGreat
set_option linter.unusedVariables false
open Go.RowKit Go.Maps Go.Sort

set_option maxHeartbeats 2000000 in
set_option maxRecDepth 100000 in
theorem rnew_walk (most seed : Int) (s0 : 0 ≤ seed) (s1 : seed ≤ 18446744073709551615) (w : World) :
    Calls Tryz.prog 3 #[.int .i64 most, .int .u64 seed] w fun e w' => e = .returned (.bool true) ∧ Below w.heap.size w w' := by
  by_cases h1 : most < 1
  · go_enter Tryz.func3, Tryz.ntmps3
    go_wp2_with fail
    refine (rvnew_bad most seed (.inl h1) _).mono ?_
    rintro e w1 ⟨rfl, rfl⟩
    go_wp2_with fail
    refine (rknown_any _).mono ?_
    rintro e w1 ⟨rfl, b1⟩
    go_wp2_with fail
    go_ret
    exact ⟨rfl, b1⟩
  · by_cases h2 : 65536 < most
    · go_enter Tryz.func3, Tryz.ntmps3
      go_wp2_with fail
      refine (rvnew_bad most seed (.inr h2) _).mono ?_
      rintro e w1 ⟨rfl, rfl⟩
      go_wp2_with fail
      refine (rknown_any _).mono ?_
      rintro e w1 ⟨rfl, b1⟩
      go_wp2_with fail
      go_ret
      exact ⟨rfl, b1⟩
    · go_enter Tryz.func3, Tryz.ntmps3
      go_wp2_with fail
      refine (Kr.start w w (Below.refl _ _) most seed (by omega) (by omega) s0 s1).mono ?_
      rintro e w1 ⟨b, rfl, k1, hb1⟩
      have K1 := Lib.hid k1
      clear k1 hb1
      go_wp2_with fail
      refine (ris_any (d := ⟨[], [], []⟩) (a := ⟨none, 0, none, 0, none, 0, []⟩) (P := fun _ => False) (ts := []) K1.out (by omega) (Dix.nil _ _) (fun g h => h.elim) (by decide) 0 0 none 0 0 0 (Reads.nil _ _ _) (fun g hg => by cases hg) (by decide) (fun s hs => by cases hs)).mono ?_
      rintro e w2 ⟨rfl, k2, -⟩
      have K2 := Lib.hid k2
      clear k2 K1
      go_wp2_with fail
      refine (rknown_any _).mono ?_
      rintro e w3 ⟨rfl, b3⟩
      have K3 := Lib.hid (K2.out.quiet b3)
      clear b3 K2
      go_wp2_with fail
      go_ret
      exact ⟨rfl, K3.out.bel⟩
end Go.Proofs.YtfpkeinknhijaaaGreat
