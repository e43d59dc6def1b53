/- SweepAlls, for all arguments. -/
import Derived.Test.YtfpkeinknhijaaaDixK
import Derived.Test.YtfpkeinknhijaaaSwpK
import Derived.StillTailTactics
namespace Go.Proofs.Ytfpkeinknhijaaa
set_option linter.unusedVariables false
open Go.RowKit Go.Maps Go.Sort

set_option maxHeartbeats 4000000 in
set_option maxRecDepth 100000 in
theorem salls_many (q : Option Addr) (N cap : Nat) (g : Int) (b c : Int) (h : 20 < N ∨ 100 < b ∨ 100 < c) (w : World) :
    Calls Try.prog 5 #[.slice q N cap, .int .u32 g, .int .u8 b, .int .u8 c] w fun e w' => e = .returned (.bool true) ∧ Below w.heap.size w w' := by
  by_cases h1 : 20 < N
  · go_enter Try.func5, Try.ntmps5
    go_wp2_with fail
    refine (sknown_any _).mono ?_
    rintro e w2 ⟨rfl, b2⟩
    go_wp2_with fail
    go_ret
    exact ⟨rfl, b2⟩
  · by_cases h2 : 100 < b
    · have h2' : b > 100 := h2
      go_enter Try.func5, Try.ntmps5
      go_wp2_with fail
      refine (sknown_any _).mono ?_
      rintro e w2 ⟨rfl, b2⟩
      go_wp2_with fail
      go_ret
      exact ⟨rfl, b2⟩
    · have h2' : ¬ b > 100 := h2
      have h3 : c > 100 := by omega
      clear h h2
      go_enter Try.func5, Try.ntmps5
      go_wp2_with fail
      refine (sknown_any _).mono ?_
      rintro e w2 ⟨rfl, b2⟩
      go_wp2_with fail
      go_ret
      exact ⟨rfl, b2⟩
set_option maxHeartbeats 16000000 in
set_option maxRecDepth 100000 in
theorem salls_some (q : Option Addr) (cap : Nat) (L : List Ts) (g : Int) (b c : Nat) (hN : L.length ≤ 20) (hb : b ≤ 100) (hc : c ≤ 100) (w : World) (hT : TActs w q L) :
    Calls Try.prog 5 #[.slice q L.length cap, .int .u32 g, .int .u8 (b : Int), .int .u8 (c : Int)] w fun e w' => e = .returned (.bool true) ∧ Below w.heap.size w w' := by
  have HT := Lib.hid hT
  obtain ⟨N, hNe⟩ : ∃ N, L.length = N := ⟨_, rfl⟩
  rw [hNe] at hN ⊢
  have HN := Lib.hid hNe
  have h1 : ¬ 20 < N := by omega
  have h2 : ¬ (b : Int) > 100 := by omega
  have h3 : ¬ (c : Int) > 100 := by omega
  clear hT hNe
  go_enter Try.func5, Try.ntmps5
  go_wp2_with fail
  refine (Kr.start w w (Below.refl _ _) 1000 6 (by decide) (by decide) (by decide) (by decide)).mono ?_
  rintro e w1 ⟨x, rfl, k1, _⟩
  have K1 := Lib.hid k1
  clear k1
  go_upto_region 5 with (go_at_call 34; refine (swnew_any _).mono ?_; rintro e w2 ⟨rfl, rfl⟩)
  have SK := Lib.hid (K1.out.sweeper rfl)
  obtain ⟨s, hs⟩ : ∃ s, w1.heap.size = s := ⟨_, rfl⟩
  rw [hs] at SK
  try simp only [hs]
  clear hs K1
  generalize w1.alloc (.cells (swCs 0 0 0) 102) = W2 at *
  go_upto_region 7 with (fail)
  obtain ⟨Bm, hBm⟩ : ∃ Bm, W2.heap.size = Bm := ⟨_, rfl⟩
  have MS := Lib.hid (Ms.start SK.out hBm)
  try simp only [hBm]
  clear hBm SK
  generalize ((W2.alloc (.cells #[.int .i64 1000, .slice none 0 0, .slice none 0 0, .slice none 0 0] 73)).alloc (.cells #[.int .i64 0, .int .i64 0, .int .u64 0] 75)) = W4 at *
  go_wp2_with fail
  go_loopg [14] N (fun r v wr => ∃ (k : Nat) (d : Dx) (P : Nat → Prop) (a : Dp), k ≤ N ∧ r + k = N ∧ v = .int .i64 (k : Int) ∧ Ms w wr P x 6 (16 * k : Nat) (16 * k) d s 0 0 0 Bm (Bm + 1) d a 0 0 0)
  case atStart => exact ⟨0, _, _, _, by omega, by omega, rfl, MS.out⟩
  case round =>
    clear MS
    obtain ⟨k, d, P, a, hkn, hr, rfl, hk⟩ := hrel
    have MS := Lib.hid hk
    have HR := Lib.hid hr
    clear hk hr
    by_cases hlt : k < N
    · obtain ⟨X, hX⟩ : ∃ X, L[k]? = some X := ⟨_, List.getElem?_eq_getElem (by rw [HN.out]; exact hlt)⟩
      obtain ⟨hst, blk, off, rfl, hbl, hcc⟩ := (HT.out.below MS.out.1.bel) k X hX
      have hbe : Below wr.heap.size wr (wr.alloc (.cells #[.int .i64 0, .int .u64 0, .slice X.p X.ts.length X.cap, .int .i64 0] 78)) := (Below.refl _ _).alloc (Nat.le_refl _) _
      have hc2 := (hbe.cell (p := ⟨blk, off + k, none⟩) hbl).trans hcc
      have hF := sew_any (some ⟨wr.heap.size, 0, none⟩) 1 _ _ (sacts_one hst)
      unfold SewP at hF
      have HST := Lib.hid hst
      have MS2 := Lib.hid (MS.out.quiet hbe)
      have HBE := Lib.hid hbe
      clear hst hbe
      cases hB : sewB [⟨0, 0, X.p, X.cap, X.ts, 0⟩] with
      | false =>
        rw [hB] at hF
        have HF := Lib.hid hF
        clear hF hB hX
        go_wp2_with (go_at_call 35; refine HF.out.mono ?_; rintro e w3 ⟨rfl, rfl⟩)
        refine (sknown_any _).mono ?_
        rintro e w9 ⟨rfl, b9⟩
        go_wp2_with fail
        go_ret
        exact ⟨rfl, MS2.out.1.bel.trans (b9.mono MS2.out.1.bel.size)⟩
      | true =>
        rw [hB] at hF
        have HF := Lib.hid hF
        have hok := (sewB_yes hB).2 ⟨0, 0, X.p, X.cap, X.ts, 0⟩ (List.mem_singleton.2 rfl)
        have hts : X.ts.length ≤ 20 := hok.1
        clear hF hB hok
        go_wp2_with (go_at_call 35; refine HF.out.mono ?_; rintro e w3 ⟨rfl, rfl⟩)
        obtain ⟨⟨d1, ns, er⟩, hadd⟩ : ∃ r, d.add 1000 (k + 1) X.ts = r := ⟨_, rfl⟩
        have HADD := Lib.hid hadd
        have HFA := Lib.hid MS.out.facts
        have hA := MS2.out.addx (by omega) (by omega) (by omega) (k + 1) (by omega) _ X.ts ((HST.out.reads (by omega)).below HBE.out) (by omega) hadd
        rw [show ((k + 1 : Nat) : Int) = (k : Int) + 1 by omega] at hA
        refine hA.mono ?_
        rintro e w4 ⟨v, rfl, ms4⟩
        have MS4 := Lib.hid ms4
        have hk1 : Below w.heap.size w w4 := ms4.1.bel
        obtain ⟨hst4, blk', off', hq', hbl4, hc4⟩ := (HT.out.below hk1) k X hX
        injection hq' with hq'
        injection hq' with hq1 hq2
        subst hq1 hq2
        have hdr : Below w4.heap.size w4 w4.drew := (Below.refl _ _).drew
        have MSd := Lib.hid (ms4.quiet hdr)
        have hM := (ms4.quiet hdr).addm HFA.out.1 (by omega) (by omega) (by have := HFA.out.2.2; omega) (by have := HFA.out.2.1; omega) (k + 1) (by omega) (.slice X.p X.ts.length X.cap) X.ts ((hst4.reads (by omega)).below hdr) (by omega) HADD.out
        rw [show ((k + 1 : Nat) : Int) = (k : Int) + 1 by omega] at hM
        unfold dixV dixCs at hM
        have HM := Lib.hid hM
        obtain ⟨-, d0, d1_, d2, d3⟩ := ms4.2.cells
        clear hM hst4 hk1 ms4 hA hadd hX HF HST MS2 HBE hcc hc2 HADD hbl hbl4
        go_upto_region 15 with (fail)
        have D0 : w4.drew.cell? ⟨Bm, 0, none⟩ = _ := d0
        have D1 : w4.drew.cell? ⟨Bm, 1, none⟩ = _ := d1_
        have D2 : w4.drew.cell? ⟨Bm, 2, none⟩ = _ := d2
        have D3 : w4.drew.cell? ⟨Bm, 3, none⟩ = _ := d3
        have C4 : w4.drew.cell? ⟨blk, off + k, none⟩ = _ := hc4
        have hwi : IntKind.i64.wrap ((k : Int) + 1) = (k : Int) + 1 := IntWalk.i64_in _ (by omega)
        have hwu : IntKind.u64.wrap ((k : Int) + 1) = (k : Int) + 1 := IntWalk.u64_in _ (by omega)
        go_region_law (go_simp; go_at_call 36; refine HM.out.mono ?_; rintro e w5 ⟨a', q', c', rfl, hd5, b5⟩; have MS5 := Lib.hid (MSd.out.quiet b5); obtain ⟨-, g0, g1, g2, g3⟩ := MS5.out.2.cells; obtain ⟨-, f0, f1, f2, f3⟩ := MS5.out.2.frozens; have MS6 := Lib.hid ((MSd.out.grow b5).store hd5); clear hd5 b5)
        all_goals
          go_wp2_with fail
          go_roundg (N - (k + 1))
          case measure => have := HR.out; omega
          case rel => exact ⟨k + 1, d1, _, a', by omega, by omega, by go_num, MS6.out.mono (by omega) (by omega)⟩
    · obtain rfl : k = N := by omega
      clear hlt hkn HR
      have MS0 := Lib.hid MS.out
      go_wp2_with fail
      go_loopg [15] k (fun r v wr => ∃ (j : Nat) (d : Dx) (P : Nat → Prop) (a : Dp), j ≤ k ∧ r + j = k ∧ v = .int .i64 (j : Int) ∧ Ms w wr P x 6 (16 * k : Nat) (16 * k) d s 0 0 0 Bm (Bm + 1) d a 0 0 0)
      case atStart => exact ⟨0, _, _, _, by omega, by omega, rfl, MS0.out⟩
      case round =>
        clear MS MS0
        obtain ⟨j, d, P, a, hjk, hr, rfl, hk⟩ := hrel
        have MS := Lib.hid hk
        have HR := Lib.hid hr
        clear hk hr
        by_cases hlt : j < k
        · obtain ⟨⟨d1, ns, er⟩, hdrop⟩ : ∃ r, d.drop (j + 1) = r := ⟨_, rfl⟩
          have HFA := Lib.hid MS.out.facts
          have HD := Lib.hid hdrop
          clear hdrop
          go_wp2_with fail
          rotate_left
          · go_roundg (k - (j + 1))
            case measure => have := HR.out; omega
            case rel => exact ⟨j + 1, d, P, a, by omega, by omega, by go_num, MS.out⟩
          · have hA := MS.out.dropx (by omega) (by omega) (j + 1) (by omega) HD.out
            rw [show ((j + 1 : Nat) : Int) = (j : Int) + 1 by omega] at hA
            refine hA.mono ?_
            rintro e w4 ⟨v, rfl, ms4⟩
            have MS4 := Lib.hid ms4
            have hM := ms4.dropm HFA.out.1 (by omega) (by have := HFA.out.2.2; omega) (j + 1) HD.out
            rw [show ((j + 1 : Nat) : Int) = (j : Int) + 1 by omega] at hM
            unfold dixV dixCs at hM
            have HM := Lib.hid hM
            obtain ⟨-, d0, d1_, d2, d3⟩ := ms4.2.cells
            clear hM hA ms4
            go_wp2_with (go_at_call 37; refine HM.out.mono ?_; rintro e w5 ⟨a', v', rfl, hd5, b5⟩; have MS5 := Lib.hid (MS4.out.quiet b5); obtain ⟨-, d0, d1_, d2, d3⟩ := MS5.out.2.cells; obtain ⟨-, f0, f1, f2, f3⟩ := MS5.out.2.frozens; have MS6 := Lib.hid ((MS4.out.grow b5).store hd5); clear hd5 b5)
            go_roundg (k - (j + 1))
            case measure => have := HR.out; omega
            case rel => exact ⟨j + 1, d1, _, a', by omega, by omega, by go_num, MS6.out⟩
        · obtain rfl : j = k := by omega
          clear hlt hjk HR
          have hFA := MS.out.facts
          have hlt0 : ∀ s ∈ d.sl, s.1 < 65536 := fun s hs => by have := hFA.1.nlt s hs; omega
          have hsl : d.sl.length ≤ 320 := by have := hFA.2.1; omega
          obtain ⟨⟨d1, n1, i1, fin1, lk1, gn1⟩, hr⟩ : ∃ r, swGo b d 0 0 0 0 = r := ⟨_, rfl⟩
          have hg1 := go_is0 b d 0 0 0 0 (by omega) hlt0
          rw [hr] at hg1
          have hn1 : n1 < 65536 := hg1.n64
          have hi1 : i1 ≤ 320 := by have := hg1.ib; simp only at this; omega
          have hlk1 : lk1 ≤ 100 := by have := hg1.lks.2; simp only at this; omega
          have hgn1 : gn1 ≤ 320 := by have := hg1.size; simp only at this; omega
          obtain ⟨rd1, hrd1⟩ : ∃ rd1, (if fin1 = true then 0 + 1 else 0) = rd1 := ⟨_, rfl⟩
          have hrdl : rd1 ≤ 1 := by rw [← hrd1]; split <;> omega
          have hSM := MS.out.stepm hFA.1 (by have := hFA.2.2; omega) (by omega) b (by omega) (by omega) (by omega) (by omega) hr
          unfold sdV sdCs dixV dixCs at hSM
          simp only at hSM
          rw [hrd1] at hSM
          rw [show ((0 : Nat) : Int) = 0 from rfl] at hSM
          have HSM := Lib.hid hSM
          have HRR := Lib.hid hr
          have HRD := Lib.hid hrd1
          obtain ⟨⟨s0, s1, s2⟩, d0, d1_, d2, d3⟩ := MS.out.2.cells
          rw [show ((0 : Nat) : Int) = 0 from rfl] at s0 s1 s2
          clear hFA hlt0 hSM hr hg1 hrd1
          go_upto_region 23 with (go_at_call 38; refine HSM.out.mono ?_; rintro e w5 ⟨a', rfl, hd5, b5⟩; have MS5 := Lib.hid (MS.out.quiet b5); obtain ⟨⟨s0, s1, s2⟩, d0, d1_, d2, d3⟩ := MS5.out.2.cells; rw [show ((0 : Nat) : Int) = 0 from rfl] at s0 s1 s2; obtain ⟨⟨t0, t1, t2⟩, f0, f1, f2, f3⟩ := MS5.out.2.frozens; have HD5 := Lib.hid hd5; have B5 := Lib.hid b5; clear hd5 b5)
          have MS6 := Lib.hid (MS.out.both B5.out HD5.out n1 i1 rd1)
          unfold putX putS at MS6
          generalize ((((((w5.setCell ⟨Bm + 1, 0, none⟩ (.int .i64 (n1 : Int))).setCell ⟨Bm + 1, 1, none⟩ (.int .i64 (i1 : Int))).setCell ⟨Bm + 1, 2, none⟩ (.int .u64 (rd1 : Int))).setCell ⟨Bm, 0, none⟩ (.int .i64 1000)).setCell ⟨Bm, 1, none⟩ (.slice a'.p d1.nm.length a'.c)).setCell ⟨Bm, 2, none⟩ (.slice a'.pA d1.all.length a'.cA)).setCell ⟨Bm, 3, none⟩ (.slice a'.pS d1.sl.length a'.cS) = W6 at *
          have hst := MS6.out.stepsx b (by omega) (by omega) (by omega) (by omega) HRR.out
          simp only at hst
          rw [HRD.out] at hst
          have HST := Lib.hid hst
          clear hst HSM s0 s1 s2 d0 d1_ d2 d3 t0 t1 t2 f0 f1 f2 f3 MS MS5
          go_upto_region 25 with (first
            | (go_at_call 39; refine HST.out.mono ?_; rintro e w7 ⟨rfl, ms7⟩; have MS7 := Lib.hid (ms7.mono (R' := 320) (n' := 1000) (by omega) (by omega)); obtain ⟨⟨s0, s1, s2⟩, d0, d1_, d2, d3⟩ := ms7.2.cells; clear ms7)
            | (go_at_call 40; refine (MS7.out.isx (by omega)).mono ?_; rintro e w8 ⟨rfl, ms8⟩; have MS8 := Lib.hid ms8; obtain ⟨⟨s0, s1, s2⟩, d0, d1_, d2, d3⟩ := ms8.2.cells; clear ms8))
          have hFA := MS8.out.facts
          have hAM := MS8.out.allm (by have := hFA.2.1; omega) (by have := hFA.2.2; omega)
          obtain ⟨dl, hdl⟩ : ∃ dl, liveSl d1 = dl := ⟨_, rfl⟩
          have hdw : wrongX dl.all dl.sl = 0 := by rw [← hdl]; exact wrong_live d1
          have hdd : liveSl dl = dl := by rw [← hdl]; exact liveSl_done (liveSl_live d1)
          have hdsl : dl.sl.length ≤ d1.sl.length := by rw [← hdl]; exact List.length_filter_le _ _
          obtain ⟨wt, hwt⟩ : ∃ wt, wrongX d1.all d1.sl = wt := ⟨_, rfl⟩
          rw [hdl, hwt] at hAM
          unfold dixV dixCs at hAM
          have HAM := Lib.hid hAM
          have HDL := Lib.hid hdl
          have HWT := Lib.hid hwt
          have HDW := Lib.hid hdw
          have HDD := Lib.hid hdd
          have HSL := Lib.hid (show d1.sl.length ≤ 1000 ∧ dl.sl.length ≤ 1000 by have := hFA.2.1; omega)
          clear hFA hAM hdl hwt hdw hdd hdsl MS7 MS6 HST
          go_upto_region 26 with (go_at_call 41; refine HAM.out.mono ?_; rintro e w9 ⟨a2, rfl, hd9, b9⟩; have MS9 := Lib.hid (MS8.out.quiet b9); obtain ⟨⟨s0, s1, s2⟩, d0, d1_, d2, d3⟩ := MS9.out.2.cells; obtain ⟨⟨t0, t1, t2⟩, f0, f1, f2, f3⟩ := MS9.out.2.frozens; have HD9 := Lib.hid hd9; have B9 := Lib.hid b9; clear hd9 b9)
          have MS10 := Lib.hid ((MS8.out.grow B9.out).store HD9.out)
          unfold putX at MS10
          generalize (((w9.setCell ⟨Bm, 0, none⟩ (.int .i64 1000)).setCell ⟨Bm, 1, none⟩ (.slice a2.p dl.nm.length a2.c)).setCell ⟨Bm, 2, none⟩ (.slice a2.pA dl.all.length a2.cA)).setCell ⟨Bm, 3, none⟩ (.slice a2.pS dl.sl.length a2.cS) = W10 at *
          have hal := MS10.out.allsx (by omega) (b := (wt : Int)) (by rw [HWT.out])
          rw [HDL.out] at hal
          have HALL := Lib.hid hal
          clear hal HAM s0 s1 s2 d0 d1_ d2 d3 t0 t1 t2 f0 f1 f2 f3 MS8 MS9
          have HL2 : Hid (∀ (W : World) (P2 : Nat → Prop) (a3 : Dp) (r0 : Nat), Ms w W P2 x 6 320 4000 dl s n1 i1 r0 Bm (Bm + 1) dl a3 n1 i1 r0 → Calls Try.prog 42 #[.pointer (some ⟨x, 0, none⟩), .int .i64 0, .int .i64 0] W (MsP w P2 x 6 320 (4000 + dl.sl.length + 64) dl s n1 i1 r0 Bm (Bm + 1) dl a3 n1 i1 r0)) := fun W P2 a3 r0 h => by
            have := h.allsx (by omega) (b := 0) (by rw [HDW.out]; rfl)
            rw [HDD.out] at this
            exact this
          go_wp2_with fail
          refine (HALL.out).mono ?_
          rintro e w11 ⟨rfl, ms11⟩
          have MS11 := Lib.hid (ms11.mono (R' := 320) (n' := 4000) (by omega) (by have := HSL.out; omega))
          obtain ⟨⟨s0, s1, s2⟩, d0, d1_, d2, d3⟩ := ms11.2.cells
          clear ms11
          go_wp2_with fail
          refine (MS11.out.isx (by omega)).mono ?_
          rintro e w12 ⟨rfl, ms12⟩
          have MS12 := Lib.hid (ms12)
          obtain ⟨⟨s0, s1, s2⟩, d0, d1_, d2, d3⟩ := ms12.2.cells
          clear ms12 MS11 HALL MS10
          go_wp2_with fail
          refine (HL2.out _ _ _ _ MS12.out).mono ?_
          rintro e w13 ⟨rfl, ms13⟩
          have MS13 := Lib.hid (ms13.mono (R' := 320) (n' := 8000) (by omega) (by have := HSL.out; omega))
          obtain ⟨⟨s0, s1, s2⟩, d0, d1_, d2, d3⟩ := ms13.2.cells
          clear ms13
          go_wp2_with fail
          refine (MS13.out.atx).mono ?_
          rintro e w14 ⟨rfl, ms14⟩
          have MS14 := Lib.hid (ms14)
          obtain ⟨⟨s0, s1, s2⟩, d0, d1_, d2, d3⟩ := ms14.2.cells
          clear ms14 MS13 MS12 HL2
          have hFA := MS14.out.facts
          have hlt0 : ∀ s ∈ dl.sl, s.1 < 65536 := fun s hs => by have := hFA.1.nlt s hs; omega
          obtain ⟨⟨d3x, n3, i3, fin3, lk3, gn3⟩, hr3⟩ : ∃ r, swGo c dl n1 i1 0 0 = r := ⟨_, rfl⟩
          have hg3 := go_is0 c dl n1 i1 0 0 hn1 hlt0
          rw [hr3] at hg3
          have hgn3 : gn3 = 0 := by have := hg3.wrong; simp only at this; rw [HDW.out] at this; omega
          subst hgn3
          have hlk3 : lk3 ≤ 100 := by have := hg3.lks.2; simp only at this; omega
          obtain ⟨rd3, hrd3⟩ : ∃ rd3, (if fin3 = true then rd1 + 1 else rd1) = rd3 := ⟨_, rfl⟩
          have hSM := MS14.out.stepm hFA.1 (by have := hFA.2.2; omega) (by have := HSL.out; omega) c (by omega) hn1 (by omega) (by omega) hr3
          unfold sdV sdCs dixV dixCs at hSM
          simp only at hSM
          rw [hrd3] at hSM
          have HSM := Lib.hid hSM
          have HRR3 := Lib.hid hr3
          have HRD3 := Lib.hid hrd3
          clear hFA hlt0 hSM hr3 hg3 hrd3
          go_upto_region 29 with (go_at_call 38; refine HSM.out.mono ?_; rintro e w15 ⟨a5, rfl, hd15, b15⟩; have MS15 := Lib.hid (MS14.out.quiet b15); obtain ⟨⟨s0, s1, s2⟩, d0, d1_, d2, d3⟩ := MS15.out.2.cells; obtain ⟨⟨t0, t1, t2⟩, f0, f1, f2, f3⟩ := MS15.out.2.frozens; have HD15 := Lib.hid hd15; have B15 := Lib.hid b15; clear hd15 b15)
          have MS16 := Lib.hid (MS14.out.both B15.out HD15.out n3 i3 rd3)
          unfold putX putS at MS16
          generalize ((((((w15.setCell ⟨Bm + 1, 0, none⟩ (.int .i64 (n3 : Int))).setCell ⟨Bm + 1, 1, none⟩ (.int .i64 (i3 : Int))).setCell ⟨Bm + 1, 2, none⟩ (.int .u64 (rd3 : Int))).setCell ⟨Bm, 0, none⟩ (.int .i64 1000)).setCell ⟨Bm, 1, none⟩ (.slice a5.p d3x.nm.length a5.c)).setCell ⟨Bm, 2, none⟩ (.slice a5.pA d3x.all.length a5.cA)).setCell ⟨Bm, 3, none⟩ (.slice a5.pS d3x.sl.length a5.cS) = W16 at *
          have hst := MS16.out.stepsx c (by omega) (by omega) (by omega) (by omega) HRR3.out
          simp only at hst
          rw [HRD3.out] at hst
          have HST3 := Lib.hid hst
          clear hst HSM s0 s1 s2 d0 d1_ d2 d3 t0 t1 t2 f0 f1 f2 f3 MS14 MS15
          go_wp2_with fail
          refine (HST3.out).mono ?_
          rintro e w17 ⟨rfl, ms17⟩
          have MS17 := Lib.hid (ms17.mono (R' := 320) (n' := 9000) (by omega) (by omega))
          obtain ⟨⟨s0, s1, s2⟩, d0, d1_, d2, d3⟩ := ms17.2.cells
          clear ms17
          go_wp2_with fail
          refine (MS17.out.atx).mono ?_
          rintro e w18 ⟨rfl, ms18⟩
          have MS18 := Lib.hid (ms18)
          obtain ⟨⟨s0, s1, s2⟩, d0, d1_, d2, d3⟩ := ms18.2.cells
          clear ms18 MS17 MS16 HST3
          go_wp2_with fail
          refine (MS18.out.isx (by omega)).mono ?_
          rintro e w19 ⟨rfl, ms19⟩
          have MS19 := Lib.hid (ms19)
          obtain ⟨⟨s0, s1, s2⟩, d0, d1_, d2, d3⟩ := ms19.2.cells
          clear ms19
          go_wp2_with fail
          refine (sknown_any _).mono ?_
          rintro e w20 ⟨rfl, b20⟩
          go_wp2_with fail
          go_ret
          exact ⟨rfl, MS19.out.1.bel.trans (b20.mono MS19.out.1.bel.size)⟩
theorem salls_walk (q : Option Addr) (cap : Nat) (L : List Ts) (g : Int) (vb vc : Int) (hb : 0 ≤ vb ∧ vb ≤ 255) (hc : 0 ≤ vc ∧ vc ≤ 255) (w : World) (hT : TActs w q L) :
    Calls Try.prog 5 #[.slice q L.length cap, .int .u32 g, .int .u8 vb, .int .u8 vc] w fun e w' => e = .returned (.bool true) ∧ Below w.heap.size w w' := by
  by_cases h : L.length ≤ 20 ∧ vb ≤ 100 ∧ vc ≤ 100
  · obtain ⟨b, rfl⟩ : ∃ b : Nat, vb = (b : Int) := ⟨vb.toNat, by omega⟩
    obtain ⟨c, rfl⟩ : ∃ c : Nat, vc = (c : Int) := ⟨vc.toNat, by omega⟩
    exact salls_some q cap L g b c h.1 (by omega) (by omega) w hT
  · exact salls_many q L.length cap g vb vc (by omega) w
end Go.Proofs.Ytfpkeinknhijaaa
