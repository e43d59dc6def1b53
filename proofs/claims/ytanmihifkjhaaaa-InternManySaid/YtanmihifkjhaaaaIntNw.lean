/- InternNew. -/
import Derived.Test.YtanmihifkjhaaaaIntI
namespace Go.Proofs.Ytanmihifkjhaaaa
set_option linter.unusedVariables false
open Go.RowKit Go.Maps Go.Sort

theorem sorted_nil (w : World) :
    Calls Try.prog 47 #[.slice none 0 0] w fun e w' => e = .returned (.slice none 0 0) ∧ w = w' := by
  go_enter Try.func47, Try.ntmps47
  go_wp2_with fail
  go_loopg [3, 4] 0 (fun r v i wr => r = 0 ∧ v = .slice none 0 0 ∧ i = .int .i64 0 ∧ w = wr)
  case atStart => exact ⟨rfl, rfl, rfl, rfl⟩
  case round =>
    obtain ⟨_, rfl, rfl, rfl⟩ := hrel
    go_wp2_with fail
    go_ret
    exact ⟨rfl, rfl⟩
theorem rnames_nil (most : Int) (w : World) :
    Calls Try.prog 30 #[.agg #[.int .i64 most, .slice none 0 0]] w (RNames w []) := by
  have HE : Hid (∀ w', Below w.heap.size w w' → RNames w [] (.returned (.slice none 0 0)) w') := fun w' h => by
    have hn : namesL [] = [] := by simp [namesL, liveTexts]
    unfold RNames
    rw [hn]
    exact ⟨none, 0, rfl, World.ownsRow_nil _ _ _ _, h⟩
  have HB : Hid (Below w.heap.size w (w.alloc (.cells #[.int .i64 most, .slice none 0 0] 31))) := (Below.refl _ _).alloc (Nat.le_refl _) _
  have hbx := Blk.new w 31 #[.int .i64 most, .slice none 0 0]
  have hb1 := Blk.cell hbx 1
  simp only [List.getElem?_toArray, List.getElem?_cons_zero, List.getElem?_cons_succ] at hb1
  clear hbx
  go_enter Try.func30, Try.ntmps30
  go_wp2_with fail
  generalize w.alloc (.cells #[.int .i64 most, .slice none 0 0] 31) = W at *
  go_loopg [3, 4] 0 (fun r v i wr => r = 0 ∧ v = .slice none 0 0 ∧ i = .int .i64 0 ∧ W = wr)
  case atStart => exact ⟨rfl, rfl, rfl, rfl⟩
  case round =>
    obtain ⟨_, rfl, rfl, rfl⟩ := hrel
    go_wp2_with (go_at_call 47; refine (sorted_nil _).mono ?_; rintro e w1 ⟨rfl, rfl⟩)
    go_ret
    exact HE.out _ HB.out
set_option maxHeartbeats 2000000 in
set_option maxRecDepth 100000 in
theorem new_walk (most seed : Int) (s0 : 0 ≤ seed) (s1 : seed ≤ 18446744073709551615) (w : World) :
    Calls Try.prog 3 #[.int .i64 most, .int .u64 seed] w fun e w' => e = .returned (.bool true) ∧ Below w.heap.size w w' := by
  by_cases h1 : most < 1
  · go_enter Try.func3, Try.ntmps3
    go_wp2_with fail
    refine (new_bad most seed (.inl h1) _).mono ?_
    rintro e w1 ⟨rfl, rfl⟩
    go_wp2_with fail
    refine (known_any _).mono ?_
    rintro e w1 ⟨rfl, b1⟩
    go_wp2_with fail
    go_ret
    exact ⟨rfl, b1⟩
  · by_cases h2 : 65536 < most
    · go_enter Try.func3, Try.ntmps3
      go_wp2_with fail
      refine (new_bad most seed (.inr h2) _).mono ?_
      rintro e w1 ⟨rfl, rfl⟩
      go_wp2_with fail
      refine (known_any _).mono ?_
      rintro e w1 ⟨rfl, b1⟩
      go_wp2_with fail
      go_ret
      exact ⟨rfl, b1⟩
    · go_enter Try.func3, Try.ntmps3
      go_wp2_with fail
      refine (Kt.start w w (Below.refl _ _) most seed (by omega) (by omega) s0 s1).mono ?_
      rintro e w1 ⟨b, rfl, k1⟩
      have K1 := Lib.hid k1
      clear k1
      go_wp2_with fail
      refine (is_any (l := []) (B := 0) (p := none) (cap := 0) (by omega) K1.out (World.ownsRow_nil _ _ _ _) (fun w' _ => rnames_nil most w') ⟨#[97]⟩ (by decide) 0).mono ?_
      rintro e w2 ⟨rfl, b2⟩
      have K2 := Lib.hid (K1.out.quiet b2)
      clear b2 K1
      go_wp2_with fail
      refine (known_any _).mono ?_
      rintro e w3 ⟨rfl, b3⟩
      have K3 := Lib.hid (K2.out.quiet b3)
      clear b3 K2
      go_wp2_with fail
      go_ret
      exact ⟨rfl, K3.out.bel⟩
end Go.Proofs.Ytanmihifkjhaaaa
