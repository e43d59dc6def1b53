/- The program's Note, where it notes. -/
import Derived.Test.YtjiefmihodfgpaaDoorStatO
namespace Go.Proofs.YtjiefmihodfgpaaDoor
set_option linter.unusedVariables false
open Go.RowKit Go.Maps Go.Sort

section
variable (b : Nat) (l ms : List Int) (R : Rp) (hl : ms.length ≤ 1000) (hU : ∀ x ∈ l, isU x) (w : World) (hc : CntAt w b l) (hI : ItemsAt w b R.p ms) (hL : LaidS w) (hb8 : 8 ≤ b)
include hl hU hc hI hL hb8
set_option maxHeartbeats 8000000 in
set_option maxRecDepth 100000 in
theorem note_ok (h : rightR R.op R.cnt ms = true) (he : R.err = 0) (hcn : R.cnt ≤ 9223372036854775807) :
    Calls Tryd.prog 16 #[.pointer (some ⟨b, 0, none⟩), .agg (rcs R ms.length)] w fun e w' => e = .returned (.int .i64 0) ∧ CntAt w' b (notedL l R.op.toNat R.cnt ms) ∧ w.grownBy w' (some b) := by
  have s0 := Lib.hid (sn_box b l ms R hU w hc hI hL hb8)
  have HC := Lib.hid (contains_any b R.p R.cap ms hl _ s0.out.items)
  clear hU hc hI hL hb8
  obtain ⟨op, err, ver, cnt, p, cap, q, n2, c2⟩ := R
  simp only at *
  subst he
  obtain ⟨⟨⟨h1, h2⟩, h3⟩, h4⟩ : ((1 ≤ op ∧ op ≤ 15) ∧ 0 ≤ cnt) ∧ ms.any markBad = false := by
    unfold rightR at h
    simpa only [Bool.and_eq_true, decide_eq_true_eq, Bool.not_eq_true'] using h
  rw [h4] at HC
  obtain ⟨o, rfl⟩ := Int.eq_ofNat_of_zero_le (by omega : 0 ≤ op)
  have ho : o < 16 := by omega
  have ho2 : (o : Int) < 16 := by omega
  obtain ⟨i1, i2⟩ := rowOne_is o ho
  obtain ⟨i3, i4⟩ := rowCnt_is o ho
  clear h h4
  generalize hLF : notedL l (o : Int).toNat cnt ms = LF
  have HLF : Hid (raiseI (raiseI (marksL (raiseL (raiseL l 0 1) 2 ms.length) ms) (rowOne o) 1) (rowCnt o) cnt = LF) := hLF
  clear hLF
  go_enter Tryd.func16, Tryd.ntmps16
  go_wp2_with fail
  refine HC.out.mono ?_
  rintro e w2 ⟨rfl, hb2⟩
  have s1 := s0.out.quiet hb2
  obtain ⟨c0, c1, c3, c4⟩ := s1.cells
  clear HC hb2 s0
  generalize w.heap.size = r at *
  go_wp2_with fail
  refine (s1.raise 0 1 (by decide) (by decide) (by decide) (by decide) (raiseL l 0 1) rfl).mono ?_
  rintro e w3 ⟨rfl, s2⟩
  obtain ⟨c0, c1, c3, c4⟩ := s2.cells
  clear s1
  go_wp2_with fail
  refine (s2.raise 2 ms.length (by decide) (by decide) (by omega) (by omega) (raiseL (raiseL l 0 1) 2 ms.length) rfl).mono ?_
  rintro e w4 ⟨rfl, s3⟩
  obtain ⟨c0, c1, c3, c4⟩ := s3.cells
  clear s2
  generalize raiseL (raiseL l 0 1) 2 ms.length = l0 at *
  go_wp2_with fail
  go_loopw [44] (fun i wr => ∃ k : Nat, k ≤ ms.length ∧ i = .int .i64 k ∧ Sn w wr b r (rcs ⟨o, 0, ver, cnt, p, cap, q, n2, c2⟩ ms.length) p ms (marksL l0 (ms.take k))) (fun i _ => ms.length - (intOf i).toNat)
  case atStart => exact ⟨0, by omega, rfl, s3⟩
  case round =>
    clear s3 c0 c1 c3 c4
    obtain ⟨k, hk, rfl, s4⟩ := hrel
    by_cases hlt : k < ms.length
    · obtain ⟨m, hm⟩ : ∃ m, ms[k]? = some m := ⟨ms[k], List.getElem?_eq_getElem hlt⟩
      obtain ⟨blk, off, vq, vn, vc, u, d, rfl, hblk, hne, x0, x1, x2, x3⟩ := s4.items k m hm
      have hnew : Hid (raiseI (marksL l0 (ms.take k)) (markPlace m) 1 = marksL l0 (ms.take (k + 1))) := by
        have e : ms.take (k + 1) = ms.take k ++ [m] := by rw [List.take_add_one, hm]; rfl
        rw [e, marksL_snoc]
        exact mark_one _ _
      have s5 := s4.quiet ((Below.refl _ _).alloc (Nat.le_refl _) (.cells #[.int .i64 m, .slice vq vn vc, .int .u64 u, .int .u64 d] 66))
      have hS := Lib.hid s5
      clear s4 s5 hm
      by_cases m1 : m = 1
      · subst m1
        go_wp2_with fail
        refine (hS.out.raise 3 1 (by decide) (by decide) (by decide) (by decide) (marksL l0 (ms.take (k + 1))) hnew.out).mono ?_
        rintro e w5 ⟨rfl, s7⟩
        clear hS hnew
        go_wp2_with fail
        go_roundw
        case rel => exact ⟨k + 1, by omega, by go_num, s7⟩
        case measure => simp [intOf]; omega
      · have m1b : (m == 1) = false := by simpa using m1
        by_cases m2 : m = 2
        · subst m2
          go_wp2_with fail
          refine (hS.out.raise 4 1 (by decide) (by decide) (by decide) (by decide) (marksL l0 (ms.take (k + 1))) hnew.out).mono ?_
          rintro e w5 ⟨rfl, s7⟩
          clear hS hnew
          go_wp2_with fail
          go_roundw
          case rel => exact ⟨k + 1, by omega, by go_num, s7⟩
          case measure => simp [intOf]; omega
        · have m2b : (m == 2) = false := by simpa using m2
          have hp : markPlace m = 5 := by unfold markPlace; rw [if_neg m1, if_neg m2]
          rw [hp] at hnew
          clear m1 m2 hp
          go_wp2_with fail
          refine (hS.out.raise 5 1 (by decide) (by decide) (by decide) (by decide) (marksL l0 (ms.take (k + 1))) hnew.out).mono ?_
          rintro e w5 ⟨rfl, s7⟩
          clear hS hnew
          go_wp2_with fail
          go_roundw
          case rel => exact ⟨k + 1, by omega, by go_num, s7⟩
          case measure => simp [intOf]; omega
    · obtain rfl : k = ms.length := by omega
      rw [List.take_length] at s4
      obtain ⟨c0, c1, c3, c4⟩ := s4.cells
      have t1 := s4.laid.rows1 o ho
      clear hlt hk
      go_wp2_with fail
      refine (s4.raise (rowOne o) 1 i1 i2 (by decide) (by decide) _ rfl).mono ?_
      rintro e w5 ⟨rfl, s5⟩
      obtain ⟨c0, c1, c3, c4⟩ := s5.cells
      have t2 := s5.laid.rows2 o ho
      have HRS : Hid (∀ w' : World, Sn w w' b r (rcs ⟨o, 0, ver, cnt, p, cap, q, n2, c2⟩ ms.length) p ms (raiseI (marksL l0 ms) (rowOne o) 1) → Calls Tryd.prog 36 #[.pointer (some ⟨b, 0, none⟩), .int .i64 (rowCnt o), .int .i64 cnt] w' fun e w'' => e = .returned (.tuple #[]) ∧ Sn w w'' b r (rcs ⟨o, 0, ver, cnt, p, cap, q, n2, c2⟩ ms.length) p ms LF) :=
        fun w' s => s.raise (rowCnt o) cnt i3 i4 h3 hcn LF HLF.out
      clear s4 t1
      go_wp2_with fail
      go_still_tail 8, (by kernel_rfl)
      change wpList _ _ _ _ _ w5.drew
      have s6 := s5.quiet (below_drewN (Below.refl _ _) 1)
      have HS6 := Lib.hid (HRS.out _ s6)
      clear s5 s6 HRS c0 c1 c3 c4 t2
      change Hid (Calls _ _ _ w5.drew _) at HS6
      obtain ⟨W1, hW1⟩ : ∃ W1, w5.drew = W1 := ⟨_, rfl⟩
      rw [hW1] at HS6 ⊢
      clear hW1
      go_wp2_with fail
      refine HS6.out.mono ?_
      rintro e w6 ⟨rfl, s7⟩
      go_wp2_with fail
      go_ret
      exact ⟨rfl, s7.cnt, s7.gr⟩
theorem note_any (hcn : R.cnt ≤ 9223372036854775807) :
    Calls Tryd.prog 16 #[.pointer (some ⟨b, 0, none⟩), .agg (rcs R ms.length)] w fun e w' => e = .returned (.int .i64 (noteR l R.op R.err R.cnt ms).2) ∧ CntAt w' b (noteR l R.op R.err R.cnt ms).1 ∧ w.grownBy w' (some b) := by
  cases h : rightR R.op R.cnt ms with
  | false =>
    have e : noteR l R.op R.err R.cnt ms = (l, 2) := by unfold noteR; rw [if_neg (by rw [h]; decide)]
    rw [e]
    exact note_bad b l ms R hl hU w hc hI hL hb8 h
  | true =>
    by_cases he : R.err = 0
    · have e : noteR l R.op R.err R.cnt ms = (notedL l R.op.toNat R.cnt ms, 0) := by unfold noteR; rw [if_pos h, if_pos he]
      rw [e]
      exact note_ok b l ms R hl hU w hc hI hL hb8 h he hcn
    · have e : noteR l R.op R.err R.cnt ms = (raiseL l 1 1, 0) := by unfold noteR; rw [if_pos h, if_neg he]
      rw [e]
      exact note_err b l ms R hl hU w hc hI hL hb8 h he
end
set_option maxHeartbeats 1000000 in
theorem note_nil (R : Rp) (n : Nat) (w : World) :
    Calls Tryd.prog 16 #[.pointer none, .agg (rcs R n)] w fun e w' => e = .returned (.int .i64 1) ∧ Below w.heap.size w w' := by
  obtain ⟨op, err, ver, cnt, p, cap, q, n2, c2⟩ := R
  go_enter Tryd.func16, Tryd.ntmps16
  go_wp2_with fail
  go_ret
  exact ⟨rfl, (Below.refl _ _).alloc (Nat.le_refl _) _⟩
end Go.Proofs.YtjiefmihodfgpaaDoor
