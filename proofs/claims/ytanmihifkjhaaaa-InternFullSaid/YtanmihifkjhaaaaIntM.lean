/- InternFull. -/
import Derived.Test.YtanmihifkjhaaaaIntK
import Derived.Test.YtanmihifkjhaaaaFullP
namespace Go.Proofs.Ytanmihifkjhaaaa
set_option linter.unusedVariables false
open Go.RowKit Go.Maps Go.Sort

theorem wrap_byte (n : Nat) (h : n < 256) : (n : Int) = ((UInt8.ofNat n).toNat : Int) := by
  simp only [UInt8.toNat_ofNat']
  omega
theorem two_bytes (i : Nat) (h : i < 65536) (W : World) : Sem.run Try.prog (convert 41 9 (.slice (some ⟨W.heap.size, 0, none⟩) 2 2)) (W.alloc (.cells #[.int .u8 ((i / 256 : Nat) : Int), .int .u8 ((i % 256 : Nat) : Int)] 5)) = .ok (.string ⟨(nmF i).toArray⟩) (W.alloc (.cells #[.int .u8 ((i / 256 : Nat) : Int), .int .u8 ((i % 256 : Nat) : Int)] 5)) := by
  have e : (#[.int .u8 ((i / 256 : Nat) : Int), .int .u8 ((i % 256 : Nat) : Int)] : Array Value) = (Lib.byteCells (nmF i)).toArray := by
    rw [wrap_byte (i / 256) (by omega), wrap_byte (i % 256) (by omega)]
    rfl
  have h := ownsRow_whole (w := W) (e := 5) (xs := Lib.byteCells (nmF i)) e (by rw [Lib.byteCells_length, show (nmF i).length = 2 from rfl]; decide)
  rw [Lib.byteCells_length] at h
  have h2 := conv_row _ (nmF i) _ _ h
  exact h2
set_option maxHeartbeats 4000000 in
set_option maxRecDepth 100000 in
theorem full_walk (less : Int) (h0 : 0 ≤ less) (h1 : less ≤ 255) (w : World) :
    Calls Try.prog 5 #[.int .u8 less] w fun e w' => e = .returned (.bool true) ∧ Below w.heap.size w w' := by
  by_cases h2 : 2 < less
  · go_enter Try.func5, Try.ntmps5
    go_wp2_with fail
    refine (known_any _).mono ?_
    rintro e w1 ⟨rfl, b1⟩
    go_wp2_with fail
    go_ret
    exact ⟨rfl, b1⟩
  · obtain ⟨M, hM⟩ : ∃ M : Nat, (M : Int) = 65536 - less := ⟨(65536 - less).toNat, by omega⟩
    have q0 : IntKind.i64.wrap less = less := IntWalk.i64_in (by omega) (by omega)
    go_enter Try.func5, Try.ntmps5
    go_wp2_with fail
    rw [← hM]
    have hM1 : M ≤ 65536 := by omega
    have hM2 : 60000 ≤ M := by omega
    clear q0 hM h0 h1 h2
    refine (Kt.start w w (Below.refl _ _) M 3 (by omega) (by omega) (by decide) (by decide)).mono ?_
    rintro e v0 ⟨b, rfl, s0⟩
    have S0 := Lib.hid s0
    clear s0
    go_wp2_with fail
    go_loopg [6] M (fun r i wr => ∃ k : Nat, k ≤ M ∧ r + k = M ∧ i = .int .i64 k ∧ Kt w wr b M 3 k (fullL k))
    case atStart => exact ⟨0, by omega, by omega, rfl, S0.out⟩
    case round =>
      clear S0
      obtain ⟨k, hk, hr, rfl, hs⟩ := hrel
      have HR := Lib.hid hr
      have HS := Lib.hid hs
      clear hr hs
      by_cases hlt : k < M
      · have q1 : Int.tdiv (k : Int) 256 = ((k / 256 : Nat) : Int) := by rw [Int.tdiv_eq_ediv_of_nonneg (by omega)]; rfl
        have q2 : Int.tmod (k : Int) 256 = ((k % 256 : Nat) : Int) := by rw [Int.tmod_eq_emod_of_nonneg (by omega)]; rfl
        have p0 : wrap64 ((k / 256 : Nat) : Int) = ((k / 256 : Nat) : Int) := by unfold wrap64; omega
        have p1 : ((k / 256 : Nat) : Int) % 256 = ((k / 256 : Nat) : Int) := by omega
        have p2 : ((k % 256 : Nat) : Int) % 256 = ((k % 256 : Nat) : Int) := by omega
        have hcv := fun W => two_bytes k (by omega) W
        have hsz : (⟨(nmF k).toArray⟩ : ByteArray).size ≤ 140737488355328 := by show (nmF k).toArray.size ≤ _; simp [nmF]
        have HA : Hid (∀ w', Kt w w' b M 3 k (fullL k) → Calls Try.prog 14 #[.pointer (some ⟨b, 0, none⟩), .string ⟨(nmF k).toArray⟩, .int .i64 k, .int .i64 0] w' fun e w'' => e = .returned (.bool true) ∧ Kt w w'' b M 3 (k + 1 : Nat) (fullL (k + 1))) := fun w' h => by
          have hx : addM M (fullL k) (⟨(nmF k).toArray⟩ : ByteArray).data.toList = (fullL (k + 1), (k : Int), 0) := by
            rw [show (⟨(nmF k).toArray⟩ : ByteArray).data.toList = nmF k from rfl]
            exact fullL_add (by omega) (by omega)
          exact h.adds ⟨(nmF k).toArray⟩ k 0 (fullL (k + 1)) hx hsz (by omega) (by omega) (by omega) (by omega)
        clear hsz
        generalize (⟨(nmF k).toArray⟩ : ByteArray) = S at *
        generalize ((k / 256 : Nat) : Int) = X at *
        generalize ((k % 256 : Nat) : Int) = Y at *
        go_wp2_with fail
        refine (HA.out _ (HS.out.quiet ((Below.refl _ _).alloc (Nat.le_refl _) _))).mono ?_
        rintro e w3 ⟨rfl, s3⟩
        have S3 := Lib.hid s3
        clear s3 HA
        go_wp2_with fail
        go_roundg (gk - 1)
        case measure => have := HR.out; omega
        case rel => exact ⟨k + 1, by omega, by have := HR.out; omega, by go_num, S3.out⟩
      · obtain rfl : k = M := by omega
        go_wp2_with fail
        refine (HS.out.adds ⟨#[109, 111, 114, 101]⟩ 0 7 _ full_more (by decide) (by omega) (by omega) (by omega) (by omega)).mono ?_
        rintro e v1 ⟨rfl, s1⟩
        have S1 := Lib.hid s1
        clear s1 HS
        go_wp2_with fail
        refine (S1.out.adds ⟨#[0, 7]⟩ 7 0 _ (full_seven (by omega) (by omega)) (by decide) (by omega) (by omega) (by omega) (by omega)).mono ?_
        rintro e v2 ⟨rfl, s2⟩
        have S2 := Lib.hid s2
        clear s2 S1
        go_wp2_with fail
        refine (S2.out.frees 9 true 0 _ (full_free (by omega)) (by omega) (by omega)).mono ?_
        rintro e v3 ⟨rfl, s3⟩
        have S3 := Lib.hid s3
        clear s3 S2
        go_wp2_with fail
        refine (S3.out.adds ⟨#[109, 111, 114, 101]⟩ 9 0 _ (full_again (by omega)) (by decide) (by omega) (by omega) (by omega) (by omega)).mono ?_
        rintro e v4 ⟨rfl, s4⟩
        have S4 := Lib.hid s4
        clear s4 S3
        go_wp2_with fail
        refine (S4.out.lens k (by rw [full3_liveN (by omega)]) (by omega)).mono ?_
        rintro e v5 ⟨rfl, s5⟩
        have S5 := Lib.hid s5
        clear s5 S4
        go_wp2_with fail
        refine (known_any _).mono ?_
        rintro e v6 ⟨rfl, b6⟩
        have S6 := Lib.hid (S5.out.quiet b6)
        clear b6 S5
        go_wp2_with fail
        go_ret
        exact ⟨rfl, S6.out.bel⟩
end Go.Proofs.Ytanmihifkjhaaaa
