/- The reference's Note. -/
import Derived.Test.YtjiefmihodfgpaaDoorStatR
namespace Go.Proofs.YtjiefmihodfgpaaDoor
set_option linter.unusedVariables false
open Go.RowKit Go.Maps Go.Sort

section
variable (b : Nat) (l ms : List Int) (v : Value) (R : Rp) (hl : ms.length ≤ 1000) (w : World) (hI : ItemsAt w b R.p ms) (hlt : b < w.heap.size) (hv : LsAt w b v l)
include hl hI hlt hv
omit hl hv in
theorem sr_box : Sr w (w.alloc (.cells (rcs R ms.length) 40)) b w.heap.size (rcs R ms.length) R.p ms :=
  ⟨Blk.new _ _ _, hI.below ((Below.refl _ _).alloc (Nat.le_refl _) _), (Below.refl _ _).alloc (Nat.le_refl _) _, by simp; omega⟩
omit hl in
set_option maxHeartbeats 4000000 in
set_option maxRecDepth 100000 in
theorem refNoteE_any (he : R.err ≠ 0) :
    Calls Tryd.prog 42 #[v, .agg (rcs R ms.length)] w fun e w' => ∃ v', e = .returned v' ∧ LsAt w' b v' (raiseL l 1 1) ∧ Below w.heap.size w w' := by
  have s0 := Lib.hid (sr_box b ms R w hI hlt)
  have l0 := Lib.hid (hv.below ((Below.refl _ _).alloc (Nat.le_refl _) (.cells (rcs R ms.length) 40)))
  have HR := Lib.hid (s0.out.raise l0.out 1 1 (by decide) (by decide) (by decide) _ rfl)
  clear hI hv s0 l0
  obtain ⟨op, err, ver, cnt, p, cap, q, n2, c2⟩ := R
  have he2 : (err == 0) = false := by simpa using he
  clear he
  go_enter Tryd.func42, Tryd.ntmps42
  go_wp2_with fail
  refine HR.out.mono ?_
  rintro e w2 ⟨v2, rfl, l2, s2⟩
  clear HR
  go_wp2_with fail
  go_ret
  exact ⟨_, rfl, l2, s2.bel⟩
set_option maxHeartbeats 8000000 in
set_option maxRecDepth 100000 in
theorem refNoteN_any (he : R.err = 0) (h1 : 1 ≤ R.op) (h2 : R.op ≤ 15) (h3 : 0 ≤ R.cnt) (hcn : R.cnt ≤ 9223372036854775807) :
    Calls Tryd.prog 42 #[v, .agg (rcs R ms.length)] w fun e w' => ∃ v', e = .returned v' ∧ LsAt w' b v' (notedL l R.op.toNat R.cnt ms) ∧ Below w.heap.size w w' := by
  have s0 := sr_box b ms R w hI hlt
  have v0 := hv.below ((Below.refl _ _).alloc (Nat.le_refl _) (.cells (rcs R ms.length) 40))
  clear hI hv
  obtain ⟨op, err, ver, cnt, p, cap, q, n2, c2⟩ := R
  simp only at *
  subst he
  obtain ⟨o, rfl⟩ := Int.eq_ofNat_of_zero_le (by omega : 0 ≤ op)
  generalize hLF : notedL l (o : Int).toNat cnt ms = LF
  have HLF : Hid (raiseI (raiseI (marksL (raiseL (raiseL l 0 1) 2 ms.length) ms) (rowOne o) 1) (rowCnt o) cnt = LF) := hLF
  clear hLF
  obtain ⟨W, hW⟩ : ∃ W, w.alloc (.cells #[.int .i64 o, .int .i64 0, .slice p ms.length cap, .int .u64 ver, .int .i64 cnt, .slice q n2 c2] 40) = W := ⟨_, rfl⟩
  have s0 : Sr w W b w.heap.size (rcs ⟨o, 0, ver, cnt, p, cap, q, n2, c2⟩ ms.length) p ms := hW ▸ s0
  have v0 : LsAt W b v l := hW ▸ v0
  obtain ⟨c0, c1, c3, c4⟩ := s0.cells
  go_enter Tryd.func42, Tryd.ntmps42
  go_wp2_with fail
  clear hW
  obtain ⟨r, hr⟩ : ∃ r, w.heap.size = r := ⟨_, rfl⟩
  rw [hr] at s0 c0 c1 c3 c4
  have sd := s0.quiet (below_drewN (Below.refl _ _) 1)
  have ld := v0.below (below_drewN (Below.refl _ _) 1)
  change Sr w W.drew b r (rcs ⟨o, 0, ver, cnt, p, cap, q, n2, c2⟩ ms.length) p ms at sd
  change LsAt W.drew b v l at ld
  have HA : Hid (Calls Tryd.prog 54 #[v, .int .i64 0, .int .i64 1] W.drew fun e w' => ∃ v', e = .returned v' ∧ LsAt w' b v' (raiseL l 0 1) ∧ Sr w w' b r (rcs ⟨o, 0, ver, cnt, p, cap, q, n2, c2⟩ ms.length) p ms) :=
    sd.raise ld 0 1 (by decide) (by decide) (by decide) (raiseL l 0 1) rfl
  have HB : Hid (∀ (v1 : Value) (w1 : World), LsAt w1 b v1 (raiseL l 0 1) → Sr w w1 b r (rcs ⟨o, 0, ver, cnt, p, cap, q, n2, c2⟩ ms.length) p ms → Calls Tryd.prog 54 #[v1, .int .i64 2, .int .i64 (ms.length : Int)] w1 fun e w' => ∃ v', e = .returned v' ∧ LsAt w' b v' (raiseL (raiseL l 0 1) 2 ms.length) ∧ Sr w w' b r (rcs ⟨o, 0, ver, cnt, p, cap, q, n2, c2⟩ ms.length) p ms) :=
    fun v1 w1 l1 s1 => s1.raise l1 2 ms.length (by decide) (by omega) (by omega) _ rfl
  clear s0 v0 c0 c1 c4 sd ld
  revert HA HB HLF
  generalize raiseL (raiseL l 0 1) 2 ms.length = L2
  generalize raiseL l 0 1 = L1
  intro HLF HA HB
  simp only [hr]
  go_region_held3 (fun w' => w'.cell? ⟨r, 2, none⟩ = some (.slice p ms.length cap)) (go_keep)
    (first
      | (go_at_call 54; with_reducible refine HA.out.mono ?_; rintro e w1 ⟨v1, rfl, l1, s1⟩; obtain ⟨c0, c1, c3, c4⟩ := s1.cells)
      | (go_at_call 54; with_reducible refine (HB.out _ _ l1 s1).mono ?_; rintro e w2 ⟨v2, rfl, l2, s2⟩; obtain ⟨c0, c1, c3, c4⟩ := s2.cells))
  clear HA HB s1 l1
  have s3 := s2
  have l3 := l2
  clear s2 l2 c0 c1 c3 c4
  obtain ⟨c0, c1, c3, c4⟩ := s3.cells
  have hr2 := hr
  go_wp2_with fail
  go_loopw [0, 5] (fun u i wr => ∃ k : Nat, k ≤ ms.length ∧ i = .int .i64 k ∧ LsAt wr b u (marksL L2 (ms.take k)) ∧ Sr w wr b r (rcs ⟨o, 0, ver, cnt, p, cap, q, n2, c2⟩ ms.length) p ms) (fun _ i _ => ms.length - (intOf i).toNat)
  case atStart => exact ⟨0, by omega, rfl, l3, s3⟩
  case round =>
    clear s3 l3 c0 c1 c3 c4
    obtain ⟨k, hk, rfl, l4, s4⟩ := hrel
    obtain ⟨c0, c1, c3, c4⟩ := s4.cells
    by_cases hlt : k < ms.length
    · obtain ⟨m, hm⟩ : ∃ m, ms[k]? = some m := ⟨ms[k], List.getElem?_eq_getElem hlt⟩
      obtain ⟨blk, off, vq, vn, vc, u, d, rfl, hblk, hne, x0, x1, x2, x3⟩ := s4.items k m hm
      have hnew : Hid (raiseL (marksL L2 (ms.take k)) (markPlace m) 1 = marksL L2 (ms.take (k + 1))) := by
        have e : ms.take (k + 1) = ms.take k ++ [m] := by rw [List.take_add_one, hm]; rfl
        rw [e, marksL_snoc]
        exact rfl
      clear hm
      have HS := Lib.hid s4
      have HL := Lib.hid l4
      clear s4 l4
      by_cases m1 : m = 1
      · subst m1
        go_wp2_with fail
        refine (HS.out.raise HL.out 3 1 (by decide) (by decide) (by decide) (marksL L2 (ms.take (k + 1))) hnew.out).mono ?_
        rintro e w5 ⟨v5, rfl, l5, s5⟩
        clear HS HL hnew
        go_wp2_with fail
        go_roundw
        case rel => exact ⟨k + 1, by omega, by go_num, l5, s5⟩
        case measure => simp [intOf]; omega
      · have m1b : (m == 1) = false := by simpa using m1
        by_cases m2 : m = 2
        · subst m2
          go_wp2_with fail
          refine (HS.out.raise HL.out 4 1 (by decide) (by decide) (by decide) (marksL L2 (ms.take (k + 1))) hnew.out).mono ?_
          rintro e w5 ⟨v5, rfl, l5, s5⟩
          clear HS HL hnew
          go_wp2_with fail
          go_roundw
          case rel => exact ⟨k + 1, by omega, by go_num, l5, s5⟩
          case measure => simp [intOf]; omega
        · have m2b : (m == 2) = false := by simpa using m2
          have hp : markPlace m = 5 := by unfold markPlace; rw [if_neg m1, if_neg m2]
          rw [hp] at hnew
          clear m1 m2 hp
          go_wp2_with fail
          refine (HS.out.raise HL.out 5 1 (by decide) (by decide) (by decide) (marksL L2 (ms.take (k + 1))) hnew.out).mono ?_
          rintro e w5 ⟨v5, rfl, l5, s5⟩
          clear HS HL hnew
          go_wp2_with fail
          go_roundw
          case rel => exact ⟨k + 1, by omega, by go_num, l5, s5⟩
          case measure => simp [intOf]; omega
    · obtain rfl : k = ms.length := by omega
      rw [List.take_length] at l4
      clear hlt hk
      generalize marksL L2 ms = L at *
      have ho : o = 1 ∨ o = 2 ∨ o = 3 ∨ o = 4 ∨ o = 5 ∨ o = 6 ∨ o = 7 ∨ o = 8 ∨ o = 9 ∨ o = 10 ∨ o = 11 ∨ o = 12 ∨ o = 13 ∨ o = 14 ∨ o = 15 := by omega
      clear h1 h2
      rcases ho with rfl | rfl | rfl | rfl | rfl | rfl | rfl | rfl | rfl | rfl | rfl | rfl | rfl | rfl | rfl
      · have sd : Sr w wr.drew b r (rcs ⟨((1 : Nat) : Int), 0, ver, cnt, p, cap, q, n2, c2⟩ ms.length) p ms := s4.quiet (below_drewN (Below.refl _ _) 1)
        have ld : LsAt wr.drew b u0 L := l4.below (below_drewN (Below.refl _ _) 1)
        have hLF : raiseL (raiseL L 6 1) 9 cnt = LF := HLF.out
        have HA : Hid (Calls Tryd.prog 54 #[u0, .int .i64 6, .int .i64 1] wr.drew fun e w' => ∃ v', e = .returned v' ∧ LsAt w' b v' (raiseL L 6 1) ∧ Sr w w' b r (rcs ⟨((1 : Nat) : Int), 0, ver, cnt, p, cap, q, n2, c2⟩ ms.length) p ms) := sd.raise ld 6 1 (by decide) (by decide) (by decide) _ rfl
        have HB : Hid (∀ (v1 : Value) (w1 : World), LsAt w1 b v1 (raiseL L 6 1) → Sr w w1 b r (rcs ⟨((1 : Nat) : Int), 0, ver, cnt, p, cap, q, n2, c2⟩ ms.length) p ms → Calls Tryd.prog 54 #[v1, .int .i64 9, .int .i64 cnt] w1 fun e w' => ∃ v', e = .returned v' ∧ LsAt w' b v' LF ∧ Sr w w' b r (rcs ⟨((1 : Nat) : Int), 0, ver, cnt, p, cap, q, n2, c2⟩ ms.length) p ms) := fun v1 w1 l1 s1 => s1.raise l1 9 cnt (by decide) h3 hcn LF hLF
        clear sd ld hLF l4 HLF c1 s4 s0 v0
        revert HA HB
        generalize raiseL L 6 1 = L6
        intro HA HB
        go_wp2_with fail
        go_region_held3 (fun w' => w'.cell? ⟨r, 4, none⟩ = some (.int .i64 cnt)) (go_keep)
          (first
            | (go_at_call 54; with_reducible refine HA.out.mono ?_; rintro e w5 ⟨v5, rfl, l5, s5⟩; obtain ⟨c0, c1, c3, c4⟩ := s5.cells)
            | (go_at_call 54; with_reducible refine (HB.out _ _ l5 s5).mono ?_; rintro e w6 ⟨v6, rfl, l6, s6⟩; obtain ⟨c0, c1, c3, c4⟩ := s6.cells))
        go_wp2_with fail
        go_ret
        exact ⟨_, rfl, l6, hr ▸ s6.bel⟩
      · have sd : Sr w wr.drew b r (rcs ⟨((2 : Nat) : Int), 0, ver, cnt, p, cap, q, n2, c2⟩ ms.length) p ms := s4.quiet (below_drewN (Below.refl _ _) 1)
        have ld : LsAt wr.drew b u0 L := l4.below (below_drewN (Below.refl _ _) 1)
        have hLF : raiseL (raiseL L 6 1) 9 cnt = LF := HLF.out
        have HA : Hid (Calls Tryd.prog 54 #[u0, .int .i64 6, .int .i64 1] wr.drew fun e w' => ∃ v', e = .returned v' ∧ LsAt w' b v' (raiseL L 6 1) ∧ Sr w w' b r (rcs ⟨((2 : Nat) : Int), 0, ver, cnt, p, cap, q, n2, c2⟩ ms.length) p ms) := sd.raise ld 6 1 (by decide) (by decide) (by decide) _ rfl
        have HB : Hid (∀ (v1 : Value) (w1 : World), LsAt w1 b v1 (raiseL L 6 1) → Sr w w1 b r (rcs ⟨((2 : Nat) : Int), 0, ver, cnt, p, cap, q, n2, c2⟩ ms.length) p ms → Calls Tryd.prog 54 #[v1, .int .i64 9, .int .i64 cnt] w1 fun e w' => ∃ v', e = .returned v' ∧ LsAt w' b v' LF ∧ Sr w w' b r (rcs ⟨((2 : Nat) : Int), 0, ver, cnt, p, cap, q, n2, c2⟩ ms.length) p ms) := fun v1 w1 l1 s1 => s1.raise l1 9 cnt (by decide) h3 hcn LF hLF
        clear sd ld hLF l4 HLF c1 s4 s0 v0
        revert HA HB
        generalize raiseL L 6 1 = L6
        intro HA HB
        go_wp2_with fail
        go_region_held3 (fun w' => w'.cell? ⟨r, 4, none⟩ = some (.int .i64 cnt)) (go_keep)
          (first
            | (go_at_call 54; with_reducible refine HA.out.mono ?_; rintro e w5 ⟨v5, rfl, l5, s5⟩; obtain ⟨c0, c1, c3, c4⟩ := s5.cells)
            | (go_at_call 54; with_reducible refine (HB.out _ _ l5 s5).mono ?_; rintro e w6 ⟨v6, rfl, l6, s6⟩; obtain ⟨c0, c1, c3, c4⟩ := s6.cells))
        go_wp2_with fail
        go_ret
        exact ⟨_, rfl, l6, hr ▸ s6.bel⟩
      · have sd : Sr w wr.drew b r (rcs ⟨((3 : Nat) : Int), 0, ver, cnt, p, cap, q, n2, c2⟩ ms.length) p ms := s4.quiet (below_drewN (Below.refl _ _) 1)
        have ld : LsAt wr.drew b u0 L := l4.below (below_drewN (Below.refl _ _) 1)
        have hLF : raiseL (raiseL L 6 1) 9 cnt = LF := HLF.out
        have HA : Hid (Calls Tryd.prog 54 #[u0, .int .i64 6, .int .i64 1] wr.drew fun e w' => ∃ v', e = .returned v' ∧ LsAt w' b v' (raiseL L 6 1) ∧ Sr w w' b r (rcs ⟨((3 : Nat) : Int), 0, ver, cnt, p, cap, q, n2, c2⟩ ms.length) p ms) := sd.raise ld 6 1 (by decide) (by decide) (by decide) _ rfl
        have HB : Hid (∀ (v1 : Value) (w1 : World), LsAt w1 b v1 (raiseL L 6 1) → Sr w w1 b r (rcs ⟨((3 : Nat) : Int), 0, ver, cnt, p, cap, q, n2, c2⟩ ms.length) p ms → Calls Tryd.prog 54 #[v1, .int .i64 9, .int .i64 cnt] w1 fun e w' => ∃ v', e = .returned v' ∧ LsAt w' b v' LF ∧ Sr w w' b r (rcs ⟨((3 : Nat) : Int), 0, ver, cnt, p, cap, q, n2, c2⟩ ms.length) p ms) := fun v1 w1 l1 s1 => s1.raise l1 9 cnt (by decide) h3 hcn LF hLF
        clear sd ld hLF l4 HLF c1 s4 s0 v0
        revert HA HB
        generalize raiseL L 6 1 = L6
        intro HA HB
        go_wp2_with fail
        go_region_held3 (fun w' => w'.cell? ⟨r, 4, none⟩ = some (.int .i64 cnt)) (go_keep)
          (first
            | (go_at_call 54; with_reducible refine HA.out.mono ?_; rintro e w5 ⟨v5, rfl, l5, s5⟩; obtain ⟨c0, c1, c3, c4⟩ := s5.cells)
            | (go_at_call 54; with_reducible refine (HB.out _ _ l5 s5).mono ?_; rintro e w6 ⟨v6, rfl, l6, s6⟩; obtain ⟨c0, c1, c3, c4⟩ := s6.cells))
        go_wp2_with fail
        go_ret
        exact ⟨_, rfl, l6, hr ▸ s6.bel⟩
      · have e : L = LF := HLF.out
        subst e
        clear HLF c1 c4
        go_wp2_with fail
        go_ret
        exact ⟨_, rfl, l4, hr ▸ s4.bel⟩
      · have e : L = LF := HLF.out
        subst e
        clear HLF c1 c4
        go_wp2_with fail
        go_ret
        exact ⟨_, rfl, l4, hr ▸ s4.bel⟩
      · have HC := Lib.hid (s4.raise l4 7 cnt (by decide) h3 hcn LF HLF.out)
        clear HLF c1 l4
        go_wp2_with fail
        refine HC.out.mono ?_
        rintro e w5 ⟨v5, rfl, l5, s5⟩
        clear HC c4
        go_wp2_with fail
        go_ret
        exact ⟨_, rfl, l5, hr ▸ s5.bel⟩
      · have HC := Lib.hid (s4.raise l4 8 cnt (by decide) h3 hcn LF HLF.out)
        clear HLF c1 l4
        go_wp2_with fail
        refine HC.out.mono ?_
        rintro e w5 ⟨v5, rfl, l5, s5⟩
        clear HC c4
        go_wp2_with fail
        go_ret
        exact ⟨_, rfl, l5, hr ▸ s5.bel⟩
      · have HC := Lib.hid (s4.raise l4 10 1 (by decide) (by decide) (by decide) LF HLF.out)
        clear HLF c1 l4
        go_wp2_with fail
        refine HC.out.mono ?_
        rintro e w5 ⟨v5, rfl, l5, s5⟩
        clear HC c4
        go_wp2_with fail
        go_ret
        exact ⟨_, rfl, l5, hr ▸ s5.bel⟩
      · have HC := Lib.hid (s4.raise l4 11 1 (by decide) (by decide) (by decide) LF HLF.out)
        clear HLF c1 l4
        go_wp2_with fail
        refine HC.out.mono ?_
        rintro e w5 ⟨v5, rfl, l5, s5⟩
        clear HC c4
        go_wp2_with fail
        go_ret
        exact ⟨_, rfl, l5, hr ▸ s5.bel⟩
      · have HC := Lib.hid (s4.raise l4 12 1 (by decide) (by decide) (by decide) LF HLF.out)
        clear HLF c1 l4
        go_wp2_with fail
        refine HC.out.mono ?_
        rintro e w5 ⟨v5, rfl, l5, s5⟩
        clear HC c4
        go_wp2_with fail
        go_ret
        exact ⟨_, rfl, l5, hr ▸ s5.bel⟩
      · have HC := Lib.hid (s4.raise l4 14 cnt (by decide) h3 hcn LF HLF.out)
        clear HLF c1 l4
        go_wp2_with fail
        refine HC.out.mono ?_
        rintro e w5 ⟨v5, rfl, l5, s5⟩
        clear HC c4
        go_wp2_with fail
        go_ret
        exact ⟨_, rfl, l5, hr ▸ s5.bel⟩
      · have HC := Lib.hid (s4.raise l4 15 cnt (by decide) h3 hcn LF HLF.out)
        clear HLF c1 l4
        go_wp2_with fail
        refine HC.out.mono ?_
        rintro e w5 ⟨v5, rfl, l5, s5⟩
        clear HC c4
        go_wp2_with fail
        go_ret
        exact ⟨_, rfl, l5, hr ▸ s5.bel⟩
      · have HC := Lib.hid (s4.raise l4 9 cnt (by decide) h3 hcn LF HLF.out)
        clear HLF c1 l4
        go_wp2_with fail
        refine HC.out.mono ?_
        rintro e w5 ⟨v5, rfl, l5, s5⟩
        clear HC c4
        go_wp2_with fail
        go_ret
        exact ⟨_, rfl, l5, hr ▸ s5.bel⟩
      · have HC := Lib.hid (s4.raise l4 13 1 (by decide) (by decide) (by decide) LF HLF.out)
        clear HLF c1 l4
        go_wp2_with fail
        refine HC.out.mono ?_
        rintro e w5 ⟨v5, rfl, l5, s5⟩
        clear HC c4
        go_wp2_with fail
        go_ret
        exact ⟨_, rfl, l5, hr ▸ s5.bel⟩
      · have e : L = LF := HLF.out
        subst e
        clear HLF c1 c4
        go_wp2_with fail
        go_ret
        exact ⟨_, rfl, l4, hr ▸ s4.bel⟩
end
end Go.Proofs.YtjiefmihodfgpaaDoor
