/- QuotaFulls. -/
import Derived.Test.YtnofpbhpnhbbpaaQuoUP
import Derived.Test.YtnofpbhpnhbbpaaConv
import Derived.Test.YtnofpbhpnhbbpaaQuoK
namespace Go.Proofs.Ytnofpbhpnhbbpaa
set_option linter.unusedVariables false
open Go.RowKit Go.Maps Go.Sort

theorem wrap_byte (n : Nat) (h : n < 256) : ((n : Nat) : Int) = ((UInt8.ofNat n).toNat : Int) := by
  simp only [UInt8.toNat_ofNat']
  omega
theorem three_bytes (i : Nat) (h : i < 1100) (W : World) : Sem.run Try.prog (convert 33 9 (.slice (some ⟨W.heap.size, 0, none⟩) 3 3)) (W.alloc (.cells #[.int .u8 ((97 + i / 100 : Nat) : Int), .int .u8 ((48 + i / 10 % 10 : Nat) : Int), .int .u8 ((48 + i % 10 : Nat) : Int)] 5)) = .ok (.string ⟨(nmQ i).toArray⟩) (W.alloc (.cells #[.int .u8 ((97 + i / 100 : Nat) : Int), .int .u8 ((48 + i / 10 % 10 : Nat) : Int), .int .u8 ((48 + i % 10 : Nat) : Int)] 5)) := by
  have e : (#[.int .u8 ((97 + i / 100 : Nat) : Int), .int .u8 ((48 + i / 10 % 10 : Nat) : Int), .int .u8 ((48 + i % 10 : Nat) : Int)] : Array Value) = (Lib.byteCells (nmQ i)).toArray := by
    rw [wrap_byte (97 + i / 100) (by omega), wrap_byte (48 + i / 10 % 10) (by omega), wrap_byte (48 + i % 10) (by omega)]
    rfl
  have h := ownsRow_whole (w := W) (e := 5) (xs := Lib.byteCells (nmQ i)) e (by rw [Lib.byteCells_length, show (nmQ i).length = 3 from rfl]; decide)
  rw [Lib.byteCells_length] at h
  have h2 := conv_row _ (nmQ i) _ _ h
  exact h2
theorem rq_ok : RlOk rQ := ⟨by decide, by decide, by decide, by decide⟩
set_option maxHeartbeats 4000000 in
set_option maxRecDepth 100000 in
theorem full_walk (many now : Int) (hn0 : 0 ≤ now) (w : World) :
    Calls Try.prog 3 #[.int .i64 many, .int .u8 now] w fun e w' => e = .returned (.bool true) ∧ Below w.heap.size w w' := by
  have HK := Lib.hid (fun w' : World => known_any w')
  by_cases hin : 998 ≤ many ∧ many ≤ 1002 ∧ now ≤ 40
  · obtain ⟨h1, h2, h3⟩ := hin
    obtain ⟨M, rfl⟩ : ∃ M : Nat, many = (M : Int) := ⟨many.toNat, by omega⟩
    obtain ⟨T, rfl⟩ : ∃ T : Nat, now = (T : Int) := ⟨now.toNat, by omega⟩
    clear hn0
    go_enter Try.func3, Try.ntmps3
    go_wp2_with fail
    refine (Kq.start w w (Below.refl _ _) rQ rq_ok).mono ?_
    rintro e v0 ⟨g, rfl, s0⟩
    have S0 := Lib.hid s0
    clear s0
    go_wp2_with fail
    go_loopg [7] M (fun q s7 wr => ∃ (i : Nat) (m : List (List UInt8 × Acc)), q + i = M ∧ i ≤ M ∧ s7 = .int .i64 (i : Int) ∧ FQ m (min i 1000) ∧ Kq w wr g i rQ 0 m)
    case atStart => exact ⟨0, [], rfl, Nat.zero_le _, rfl, FQ.nil, S0.out⟩
    case round =>
      clear S0
      obtain ⟨i, m, hq, hi, rfl, hf, hs⟩ := hrel
      have HQ := Lib.hid hq
      have HF := Lib.hid hf
      have HS := Lib.hid hs
      clear hq hf hs
      by_cases hlt : i < M
      · obtain ⟨X, hX⟩ : ∃ X : Nat, X = 97 + i / 100 := ⟨_, rfl⟩
        obtain ⟨Y, hY⟩ : ∃ Y : Nat, Y = 48 + i / 10 % 10 := ⟨_, rfl⟩
        obtain ⟨Z, hZ⟩ : ∃ Z : Nat, Z = 48 + i % 10 := ⟨_, rfl⟩
        have hcv := fun W => three_bytes i (by omega) W
        rw [← hX, ← hY, ← hZ] at hcv
        have p1 : (97 : Int) + (i : Int) / 100 = (X : Int) := by omega
        have p2 : (48 : Int) + (i : Int) / 10 % 10 = (Y : Int) := by omega
        have p3 : (48 : Int) + (i : Int) % 10 = (Z : Int) := by omega
        have p4 : (X : Int) % 256 = (X : Int) := by omega
        have p5 : (Y : Int) % 256 = (Y : Int) := by omega
        have p6 : (Z : Int) % 256 = (Z : Int) := by omega
        have hsz : (⟨(nmQ i).toArray⟩ : ByteArray).size ≤ 140737488355328 := by show (nmQ i).toArray.size ≤ _; simp [nmQ]
        have hask : ∀ (R : Bool × Int × List (List UInt8 × Acc)), askM rQ 0 m (nmQ i) 0 = R → Hid (∀ w', Kq w w' g i rQ 0 m → Calls Try.prog 9 #[.pointer (some ⟨g, 0, none⟩), .int .u64 0, .string ⟨(nmQ i).toArray⟩, .int .i64 0] w' fun e w'' => e = .returned (.tuple #[.bool R.1, .int .i64 R.2.1]) ∧ Kq w w'' g (i + 1) rQ 0 R.2.2) := fun R hR w' h => by
          have := h.ask rq_ok 0 ⟨(nmQ i).toArray⟩ 0 hsz (by decide) (by rw [show (⟨(nmQ i).toArray⟩ : ByteArray).data.toList = nmQ i from rfl]; unfold mayE; rw [if_neg (by simp [nmQ]), if_neg (by decide)]) (by omega)
          rw [show max 0 0 = 0 from rfl, show (⟨(nmQ i).toArray⟩ : ByteArray).data.toList = nmQ i from rfl, hR] at this
          exact this
        have HAS := Lib.hid hask
        clear hask hsz hX hY hZ
        by_cases h9 : i < 1000
        · have hmin : min i 1000 = i := by omega
          have hf := HF.out
          rw [hmin] at hf
          obtain ⟨m', ha, hf'⟩ := hf.room h9 rfl
          have HA := HAS.out _ ha
          have HF' := Lib.hid hf'
          clear hmin hf ha hf' HAS
          generalize (⟨(nmQ i).toArray⟩ : ByteArray) = S at *
          go_wp2_with fail
          refine (HA.out _ (HS.out.quiet ((Below.refl _ _).alloc (Nat.le_refl _) _))).mono ?_
          rintro e w3 ⟨rfl, s3⟩
          have S3 := Lib.hid s3
          clear s3 hcv
          go_wp2_with fail
          go_roundg (gk - 1)
          case measure => have := HQ.out; omega
          case rel => exact ⟨i + 1, m', by have := HQ.out; omega, by omega, by go_num, by rw [show min (i + 1) 1000 = i + 1 by omega]; exact HF'.out, S3.out⟩
        · have hmin : min i 1000 = 1000 := by omega
          have hf := HF.out
          rw [hmin] at hf
          have ha := hf.full (now := 0) (by omega) (c := nmQ i) (fun j hj e => by have := nmQ_inj (by omega) (by omega) e; omega)
          have HA := HAS.out _ ha
          have HF' := Lib.hid hf
          clear hmin hf ha HAS
          generalize (⟨(nmQ i).toArray⟩ : ByteArray) = S at *
          go_wp2_with fail
          refine (HA.out _ (HS.out.quiet ((Below.refl _ _).alloc (Nat.le_refl _) _))).mono ?_
          rintro e w3 ⟨rfl, s3⟩
          have S3 := Lib.hid s3
          clear s3 hcv
          go_wp2_with fail
          go_roundg (gk - 1)
          case measure => have := HQ.out; omega
          case rel => exact ⟨i + 1, m, by have := HQ.out; omega, by omega, by go_num, by rw [show min (i + 1) 1000 = 1000 by omega]; exact HF'.out, S3.out⟩
      · obtain rfl : i = M := by omega
        have hnew : ∀ (R : Bool × Int × List (List UInt8 × Acc)), askM rQ T m newB 0 = R → Hid (Calls Try.prog 9 #[.pointer (some ⟨g, 0, none⟩), .int .u64 (T : Int), .string ⟨#[110, 101, 119]⟩, .int .i64 0] wr fun e w'' => e = .returned (.tuple #[.bool R.1, .int .i64 R.2.1]) ∧ Kq w w'' g (i + 1) rQ T R.2.2) := fun R hR => by
          have := HS.out.ask rq_ok T ⟨#[110, 101, 119]⟩ 0 (by decide) (by omega) (by unfold mayE; rw [if_neg (by decide), if_neg (by omega)]) (by omega)
          rw [show max 0 T = T by omega, show (⟨#[110, 101, 119]⟩ : ByteArray).data.toList = newB from rfl, hR] at this
          exact this
        by_cases hfull : 1000 ≤ i ∧ T < 20
        · obtain ⟨f1, f2⟩ := hfull
          have hf := HF.out
          rw [show min i 1000 = 1000 by omega] at hf
          have ha := hf.full f2 (c := newB) (fun j hj => nmQ_new (by omega))
          have HA := hnew _ ha
          have HF' := Lib.hid hf
          have HLEN := Lib.hid (hf.clients f2)
          have f3 : (1000 : Int) ≤ (i : Int) := by omega
          have f4 : (T : Int) < 20 := by omega
          clear hf ha hnew HF HQ HS
          go_wp2_with fail
          refine HA.out.mono ?_
          rintro e w3 ⟨rfl, s3⟩
          have HC := Lib.hid (s3.clients rq_ok (by omega) (by omega))
          clear s3 HA
          go_wp2_with fail
          refine HC.out.mono ?_
          rintro e w4 ⟨v, rfl, hv, s4⟩
          obtain ⟨p, cap, rfl, _, _⟩ := hv
          rw [List.length_map, HLEN.out]
          have S4 := Lib.hid s4
          obtain ⟨b, hb, _⟩ := s4
          have HNOW := Lib.hid (now_any g b _ rQ T _ w4 hb)
          clear hb HC
          go_wp2_with fail
          refine HNOW.out.mono ?_
          rintro e w5 ⟨rfl, rfl⟩
          go_wp2_with fail
          refine (HK.out w4).mono ?_
          rintro e w6 ⟨rfl, b6⟩
          go_wp2_with fail
          go_ret
          exact ⟨rfl, S4.out.bel.trans (b6.mono S4.out.bel.size)⟩
        · have hf := HF.out
          obtain ⟨m', ha⟩ := hf.last (now := T) (by omega) (by omega)
          have HA := hnew _ ha
          have hc : (i : Int) < 1000 ∨ ((1000 : Int) ≤ (i : Int) ∧ 20 ≤ (T : Int)) := by omega
          clear hf ha hnew HF HQ HS hfull
          rcases hc with hc | ⟨hc, hc2⟩
          all_goals
            go_wp2_with fail
            refine HA.out.mono ?_
            rintro e w3 ⟨rfl, s3⟩
            have S3 := Lib.hid s3
            clear s3 HA
            go_wp2_with fail
            refine (HK.out w3).mono ?_
            rintro e w6 ⟨rfl, b6⟩
            go_wp2_with fail
            go_ret
            exact ⟨rfl, S3.out.bel.trans (b6.mono S3.out.bel.size)⟩
  · have H := Lib.hid hin
    clear hin
    go_enter Try.func3, Try.ntmps3
    go_wp2_with fail
    all_goals first
      | (exfalso; exact H.out ⟨by omega, by omega, by omega⟩)
      | skip
    all_goals
      refine (HK.out w).mono ?_
      rintro e w2 ⟨rfl, b2⟩
      go_wp2_with fail
      go_ret
      exact ⟨rfl, b2⟩
end Go.Proofs.Ytnofpbhpnhbbpaa
