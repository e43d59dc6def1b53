/- The laws AccountCosts, AccountFulls and AccountNil: each returns true. -/
import Derived.Test.YtnfehdcinmgnjaaAccE
namespace Go.Proofs.Ytnfehdcinmgnjaa
set_option linter.unusedVariables false
open Go.RowKit Go.Maps Go.Sort

set_option maxHeartbeats 4000000 in
set_option maxRecDepth 100000 in
theorem costs_walk (k : ByteArray) (n : Int) (v : Value) (l : List Bt) (hk : k.size ≤ 140737488355328) (hn : -9223372036854775808 ≤ n ∧ n ≤ 9223372036854775807) (w : World) (hr : Reads w v (l.map encStr)) :
    Calls Try.prog 3 #[.string k, .int .i64 n, v] w fun e w' => e = .returned (.bool true) ∧ Below w.heap.size w w' := by
  have hR := hr
  obtain ⟨p, cap, rfl, hl2, _⟩ := hr
  obtain ⟨_, hC⟩ := cellsOf_reads hR
  rw [List.length_map] at hl2 hR ⊢
  have HC := Lib.hid hC
  clear hC
  obtain ⟨hn1, hn2⟩ := hn
  by_cases h1 : k.size ≤ 600 ∧ 0 ≤ n ∧ n ≤ 66000 ∧ l.length ≤ 40
  · obtain ⟨h1, h2, h3, h4⟩ := h1
    obtain ⟨n, rfl⟩ : ∃ m : Nat, n = m := ⟨n.toNat, by omega⟩
    have hmk := run_make_row' (P := Try.prog) 26 5 (.int .u8 0) 1 Try.underlying26 infoByte rfl .i64 .i64 n (by omega) (by omega)
    go_enter Try.func3, Try.ntmps3
    go_wp2
    go_loop [30] (fun i => ∃ j : Nat, j ≤ l.length ∧ i = .int .i64 j ∧ Hid (∀ x ∈ l.take j, x.length ≤ 100)) (fun i => l.length - (intOf i).toNat)
    case atStart => exact ⟨0, by omega, rfl, by intro x hx; simp at hx⟩
    case round =>
      obtain ⟨j, hj, rfl, HJ⟩ := hrel
      by_cases hlt : j < l.length
      · obtain ⟨x, hx⟩ : ∃ x, l[j]? = some x := ⟨l[j], List.getElem?_eq_getElem hlt⟩
        obtain ⟨blk, off, rfl, HBLK, hcell⟩ := HC.out j x hx
        by_cases hs : x.length ≤ 100
        · have HJ2 : Hid (∀ x ∈ l.take (j + 1), x.length ≤ 100) := by
            intro y hy
            rw [take_snoc l j x hx] at hy
            rcases List.mem_append.1 hy with hy | hy
            · exact HJ.out y hy
            · simp only [List.mem_singleton] at hy; rw [hy]; exact hs
          clear hx hmk
          go_wp2
          go_round
          case rel => exact ⟨j + 1, by omega, by go_num, HJ2⟩
          case measure => simp [intOf]; omega
        · have hs2 : 100 < x.length := by omega
          clear hs hx hmk
          go_wp2_with (go_at_call 8; refine (known_any _).mono ?_; rintro e w' ⟨rfl, hb1⟩)
          go_ret
          exact ⟨rfl, hb1⟩
      · obtain rfl : j = l.length := by omega
        have hx : ∀ x ∈ l, x.length ≤ 1000 := fun x hx => by
          have := HJ.out x (by rw [List.take_length]; exact hx)
          omega
        have HX := Lib.hid hx
        clear hlt hj hx HJ
        go_wp2_with fail
        have hr2 := hR.below ((Below.refl w.heap.size w).alloc (Nat.le_refl _) (.cells (Go.madeCells #[.int .u8 0] n) 5))
        have HR2 := Lib.hid hr2
        clear hr2 hmk hR
        refine (refCost_any k n n _ _ l (by omega) (by omega) (by omega) HX.out _ HR2.out).mono ?_
        rintro e w1 ⟨rfl, b1⟩
        have HR3 := Lib.hid (HR2.out.below b1)
        have b2 := ((Below.refl w.heap.size w).alloc (Nat.le_refl _) (.cells (Go.madeCells #[.int .u8 0] n) 5)).trans (b1.mono (by simp))
        clear b1 HR2
        go_wp2_with fail
        refine (costs_any k n _ l _ _ (by omega) (by omega) (by omega) HX.out _ HR3.out).mono ?_
        rintro e w2 ⟨rfl, b3⟩
        have b4 := b2.trans (b3.mono b2.size)
        clear b2 b3
        rw [show ((acCost k.size n l).1 == (acCost k.size n l).1 && (acCost k.size n l).2 == (acCost k.size n l).2) = true by simp]
        go_wp2_with fail
        refine (known_any _).mono ?_
        rintro e w3 ⟨rfl, b5⟩
        go_wp2_with fail
        go_ret
        exact ⟨rfl, b4.trans (b5.mono b4.size)⟩
  · have h2 : 600 < k.size ∨ (k.size ≤ 600 ∧ n < 0) ∨ (k.size ≤ 600 ∧ 0 ≤ n ∧ 66000 < n) ∨ (k.size ≤ 600 ∧ 0 ≤ n ∧ n ≤ 66000 ∧ 40 < l.length) := by omega
    rcases h2 with h2 | ⟨h2, h3⟩ | ⟨h2, h3, h4⟩ | ⟨h2, h3, h4, h5⟩
    all_goals
      clear h1
      go_enter Try.func3, Try.ntmps3
      go_wp2_with (go_at_call 8; refine (known_any _).mono ?_; rintro e w' ⟨rfl, hb1⟩)
      go_ret
      exact ⟨rfl, hb1⟩

theorem chg_full (cost : Int) (h : isCost cost = true) : acChg ⟨1099511627776, 1048576, 2097152 * cost, 2097152⟩ cost 65 = (⟨1099511627776, 1048576, 2097151 * cost + 65, 2097152⟩, 0) := by
  have h2 := (isCost_iff cost).1 h
  have h65 : isCost 65 = true := by decide
  have hf : fitsIn (2097152 * cost - cost) (2097152 - 1) = true := by simp [fitsIn]; omega
  have hr : acRem ⟨1099511627776, 1048576, 2097152 * cost, 2097152⟩ cost = (⟨1099511627776, 1048576, 2097151 * cost, 2097151⟩, 0) := by
    rw [acRem_ok h hf]
    show ((⟨1099511627776, 1048576, 2097152 * cost - cost, 2097152 - 1⟩ : Ac), (0 : Int)) = _
    rw [show (2097152 * cost - cost : Int) = 2097151 * cost by omega]
    rfl
  unfold acChg
  rw [hr, h, h65]
  simp only [Bool.and_self, if_true]
  rw [acAdd_ok h65 (by show (2097151 : Int) < 2097152; omega)]
  rfl

set_option maxHeartbeats 4000000 in
set_option maxRecDepth 100000 in
theorem fulls_walk (less cost : Int) (hl : -9223372036854775808 ≤ less ∧ less ≤ 9223372036854775807) (hc : -9223372036854775808 ≤ cost ∧ cost ≤ 9223372036854775807) (w : World) :
    Calls Try.prog 4 #[.int .i64 less, .int .i64 cost] w fun e w' => e = .returned (.bool true) ∧ Below w.heap.size w w' := by
  obtain ⟨hl1, hl2⟩ := hl
  obtain ⟨hc1, hc2⟩ := hc
  by_cases h1 : 0 ≤ less ∧ less ≤ 2 ∧ 65 ≤ cost ∧ cost ≤ 67000
  · obtain ⟨h1, h2, h3, h4⟩ := h1
    have hco : isCost cost = true := (isCost_iff cost).2 ⟨h3, h4⟩
    have HCO := Lib.hid hco
    clear hco
    have h5 : less = 0 ∨ less = 1 ∨ less = 2 := by omega
    clear h1 h2
    rcases h5 with rfl | rfl | rfl
    · go_enter Try.func4, Try.ntmps4
      go_wp2_with fail
      refine (sc_new 1099511627776 1048576 (by decide) (by decide) (by decide) (by decide) _ _ (Below.refl _ _)).mono ?_
      rintro e w1 ⟨rfl, s0⟩
      obtain ⟨b, hb⟩ : ∃ b, w.heap.size = b := ⟨_, rfl⟩
      rw [hb] at s0 ⊢
      clear hb
      go_wp2_with fail
      go_loopw [8] (fun i wr => ∃ x : Int, 0 ≤ x ∧ x ≤ 2097152 ∧ i = .int .i64 x ∧ Sc w wr b ⟨1099511627776, 1048576, x * cost, x⟩) (fun i _ => (2097152 - intOf i).toNat)
      case atStart => exact ⟨0, by omega, by omega, rfl, by simpa using s0⟩
      case round =>
        obtain ⟨x, hx0, hx, rfl, s1⟩ := hrel
        clear s0
        by_cases hlt : x < 2097152
        · have hadd : acAdd ⟨1099511627776, 1048576, x * cost, x⟩ cost = (⟨1099511627776, 1048576, (x + 1) * cost, x + 1⟩, 0) := by
            rw [acAdd_ok HCO.out (by show x < 2097152; omega), Int.add_mul, Int.one_mul]
          have HA := Lib.hid hadd
          clear hadd
          go_wp2_with fail
          refine (s1.add cost 0 HA.out hc1 hc2).mono ?_
          rintro e w2 ⟨rfl, s2⟩
          clear s1
          go_wp2_with fail
          go_roundw
          case rel => exact ⟨x + 1, by omega, by omega, rfl, s2⟩
          case measure => simp only [intOf]; omega
        · have e1 : x = 2097152 := by omega
          subst e1
          clear hlt hx hx0
          have s2 : Sc w wr b ⟨1099511627776, 1048576, 2097152 * cost, 2097152⟩ := s1
          clear s1
          go_wp2_with fail
          refine (s2.used _ _ true (by simp)).mono ?_
          rintro e w2 ⟨rfl, s3⟩
          clear s2
          go_wp2_with fail
          refine (s3.over _ _ true (by simp <;> omega)).mono ?_
          rintro e w3 ⟨rfl, s4⟩
          clear s3
          go_wp2_with fail
          refine (s4.add (A' := ⟨1099511627776, 1048576, 2097152 * cost, 2097152⟩) cost 7 (acAdd_full HCO.out (by show (2097152 : Int) ≤ 2097152; omega)) hc1 hc2).mono ?_
          rintro e w4 ⟨rfl, s5⟩
          clear s4
          go_wp2_with fail
          refine (s5.chg (A' := ⟨1099511627776, 1048576, 2097151 * cost + 65, 2097152⟩) cost 65 0 (chg_full cost HCO.out) hc1 hc2 (by decide) (by decide)).mono ?_
          rintro e w5 ⟨rfl, s5'⟩
          clear s5
          go_wp2_with fail
          refine (s5'.used _ _ true (by simp)).mono ?_
          rintro e w5' ⟨rfl, s6⟩
          go_wp2_with fail
          refine (known_any _).mono ?_
          rintro e w6 ⟨rfl, b6⟩
          go_wp2_with fail
          go_ret
          exact ⟨rfl, (s6.quiet b6).bel⟩
    · go_enter Try.func4, Try.ntmps4
      go_wp2_with fail
      refine (sc_new 1099511627776 1048576 (by decide) (by decide) (by decide) (by decide) _ _ (Below.refl _ _)).mono ?_
      rintro e w1 ⟨rfl, s0⟩
      obtain ⟨b, hb⟩ : ∃ b, w.heap.size = b := ⟨_, rfl⟩
      rw [hb] at s0 ⊢
      clear hb
      go_wp2_with fail
      go_loopw [8] (fun i wr => ∃ x : Int, 0 ≤ x ∧ x ≤ 2097151 ∧ i = .int .i64 x ∧ Sc w wr b ⟨1099511627776, 1048576, x * cost, x⟩) (fun i _ => (2097151 - intOf i).toNat)
      case atStart => exact ⟨0, by omega, by omega, rfl, by simpa using s0⟩
      case round =>
        obtain ⟨x, hx0, hx, rfl, s1⟩ := hrel
        clear s0
        by_cases hlt : x < 2097151
        · have hadd : acAdd ⟨1099511627776, 1048576, x * cost, x⟩ cost = (⟨1099511627776, 1048576, (x + 1) * cost, x + 1⟩, 0) := by
            rw [acAdd_ok HCO.out (by show x < 2097152; omega), Int.add_mul, Int.one_mul]
          have HA := Lib.hid hadd
          clear hadd
          go_wp2_with fail
          refine (s1.add cost 0 HA.out hc1 hc2).mono ?_
          rintro e w2 ⟨rfl, s2⟩
          clear s1
          go_wp2_with fail
          go_roundw
          case rel => exact ⟨x + 1, by omega, by omega, rfl, s2⟩
          case measure => simp only [intOf]; omega
        · have e1 : x = 2097151 := by omega
          subst e1
          clear hlt hx hx0
          have s2 : Sc w wr b ⟨1099511627776, 1048576, 2097151 * cost, 2097151⟩ := s1
          clear s1
          go_wp2_with fail
          refine (s2.used _ _ true (by simp)).mono ?_
          rintro e w2 ⟨rfl, s3⟩
          clear s2
          go_wp2_with fail
          refine (s3.over _ _ true (by simp <;> omega)).mono ?_
          rintro e w3 ⟨rfl, s4⟩
          clear s3
          go_wp2_with fail
          refine (s4.add (A' := ⟨1099511627776, 1048576, 2097152 * cost, 2097152⟩) cost 0 (by rw [acAdd_ok HCO.out (by show (2097151 : Int) < 2097152; omega)]; show ((⟨1099511627776, 1048576, 2097151 * cost + cost, 2097151 + 1⟩ : Ac), (0 : Int)) = _; rw [show (2097151 * cost + cost : Int) = 2097152 * cost by omega]; rfl) hc1 hc2).mono ?_
          rintro e w4 ⟨rfl, s5⟩
          clear s4
          go_wp2_with fail
          refine (s5.used _ _ true (by simp)).mono ?_
          rintro e w5 ⟨rfl, s6⟩
          go_wp2_with fail
          refine (known_any _).mono ?_
          rintro e w6 ⟨rfl, b6⟩
          go_wp2_with fail
          go_ret
          exact ⟨rfl, (s6.quiet b6).bel⟩
    · go_enter Try.func4, Try.ntmps4
      go_wp2_with fail
      refine (sc_new 1099511627776 1048576 (by decide) (by decide) (by decide) (by decide) _ _ (Below.refl _ _)).mono ?_
      rintro e w1 ⟨rfl, s0⟩
      obtain ⟨b, hb⟩ : ∃ b, w.heap.size = b := ⟨_, rfl⟩
      rw [hb] at s0 ⊢
      clear hb
      go_wp2_with fail
      go_loopw [8] (fun i wr => ∃ x : Int, 0 ≤ x ∧ x ≤ 2097150 ∧ i = .int .i64 x ∧ Sc w wr b ⟨1099511627776, 1048576, x * cost, x⟩) (fun i _ => (2097150 - intOf i).toNat)
      case atStart => exact ⟨0, by omega, by omega, rfl, by simpa using s0⟩
      case round =>
        obtain ⟨x, hx0, hx, rfl, s1⟩ := hrel
        clear s0
        by_cases hlt : x < 2097150
        · have hadd : acAdd ⟨1099511627776, 1048576, x * cost, x⟩ cost = (⟨1099511627776, 1048576, (x + 1) * cost, x + 1⟩, 0) := by
            rw [acAdd_ok HCO.out (by show x < 2097152; omega), Int.add_mul, Int.one_mul]
          have HA := Lib.hid hadd
          clear hadd
          go_wp2_with fail
          refine (s1.add cost 0 HA.out hc1 hc2).mono ?_
          rintro e w2 ⟨rfl, s2⟩
          clear s1
          go_wp2_with fail
          go_roundw
          case rel => exact ⟨x + 1, by omega, by omega, rfl, s2⟩
          case measure => simp only [intOf]; omega
        · have e1 : x = 2097150 := by omega
          subst e1
          clear hlt hx hx0
          have s2 : Sc w wr b ⟨1099511627776, 1048576, 2097150 * cost, 2097150⟩ := s1
          clear s1
          go_wp2_with fail
          refine (s2.used _ _ true (by simp)).mono ?_
          rintro e w2 ⟨rfl, s3⟩
          clear s2
          go_wp2_with fail
          refine (s3.over _ _ true (by simp <;> omega)).mono ?_
          rintro e w3 ⟨rfl, s4⟩
          clear s3
          go_wp2_with fail
          refine (s4.add (A' := ⟨1099511627776, 1048576, 2097151 * cost, 2097151⟩) cost 0 (by rw [acAdd_ok HCO.out (by show (2097150 : Int) < 2097152; omega)]; show ((⟨1099511627776, 1048576, 2097150 * cost + cost, 2097150 + 1⟩ : Ac), (0 : Int)) = _; rw [show (2097150 * cost + cost : Int) = 2097151 * cost by omega]; rfl) hc1 hc2).mono ?_
          rintro e w4 ⟨rfl, s5⟩
          clear s4
          go_wp2_with fail
          refine (s5.used _ _ true (by simp)).mono ?_
          rintro e w5 ⟨rfl, s6⟩
          go_wp2_with fail
          refine (known_any _).mono ?_
          rintro e w6 ⟨rfl, b6⟩
          go_wp2_with fail
          go_ret
          exact ⟨rfl, (s6.quiet b6).bel⟩
  · have h2 : less < 0 ∨ (0 ≤ less ∧ 2 < less) ∨ (0 ≤ less ∧ less ≤ 2 ∧ cost < 65) ∨ (0 ≤ less ∧ less ≤ 2 ∧ 65 ≤ cost ∧ 67000 < cost) := by omega
    rcases h2 with h2 | ⟨h2, h3⟩ | ⟨h2, h3, h4⟩ | ⟨h2, h3, h4, h5⟩
    all_goals
      clear h1
      go_enter Try.func4, Try.ntmps4
      go_wp2_with (go_at_call 8; refine (known_any _).mono ?_; rintro e w' ⟨rfl, hb1⟩)
      go_ret
      exact ⟨rfl, hb1⟩
end Go.Proofs.Ytnfehdcinmgnjaa
