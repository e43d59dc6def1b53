/- SweepPlays, for all arguments. -/
import Derived.Test.YtfpkeinknhijaaaSwpX
import Derived.Test.YtfpkeinknhijaaaSwpO
import Derived.Test.YtfpkeinknhijaaaRevS
import Derived.Deep.CutBlock
import Derived.Deep.DeepCutAuto
import Derived.Deep.AppendLies
namespace Go.Proofs.Ytfpkeinknhijaaa
set_option linter.unusedVariables false
open Go.RowKit Go.Maps Go.Sort

theorem add_sl (most : Int) (d : Dx) (id : Nat) (ts : List (List UInt8)) : (d.add most id ts).1.sl.length ≤ d.sl.length + ts.length ∧ (d.add most id ts).1.all.length ≤ d.all.length + 1 := by
  have hl := add_len most d id ts
  unfold Dx.add at hl ⊢
  split
  · exact ⟨Nat.le_add_right _ _, Nat.le_add_right _ _⟩
  · rename_i h1
    rw [if_neg h1] at hl
    split
    · rename_i h2
      rw [if_pos h2] at hl
      simp only [List.length_append, List.length_map, List.length_singleton] at hl ⊢
      omega
    · exact ⟨Nat.le_add_right _ _, Nat.le_add_right _ _⟩
theorem drop_sl (d : Dx) (id : Nat) : (d.drop id).1.sl = d.sl ∧ (d.drop id).1.all.length = d.all.length := by
  unfold Dx.drop
  split
  · exact ⟨rfl, rfl⟩
  · exact ⟨rfl, by simp⟩
/-- Between two calls of SweepPlays. -/
structure Pl (V w : World) (k x s Bm : Nat) (P : Nat → Prop) (d : Dx) (a : Dp) (n i rd : Nat) : Prop where
  ms : Ms V w P x 5 ((16 * k : Nat) : Int) (nnF k) d s n i rd Bm (Bm + 1) d a n i rd
  sl : d.sl.length ≤ 20 * k
  al : d.all.length ≤ 20 * k
  n64 : n < 65536
  ib : i ≤ 1000
  rb : rd ≤ k
theorem Pl.quiet {V w w' : World} {k x s Bm : Nat} {P : Nat → Prop} {d : Dx} {a : Dp} {n i rd : Nat} (h : Pl V w k x s Bm P d a n i rd) (hb : Below w.heap.size w w') : Pl V w' k x s Bm P d a n i rd := ⟨h.ms.quiet hb, h.sl, h.al, h.n64, h.ib, h.rb⟩
theorem Pl.next {V w : World} {k x s Bm : Nat} {P : Nat → Prop} {d : Dx} {a : Dp} {n i rd : Nat} (h : Pl V w k x s Bm P d a n i rd) : Pl V w (k + 1) x s Bm P d a n i rd :=
  ⟨h.ms.mono (by omega) (by rw [nnF]; omega), by have := h.sl; omega, by have := h.al; omega, h.n64, h.ib, by have := h.rb; omega⟩
set_option maxHeartbeats 16000000 in
set_option maxRecDepth 100000 in
theorem splays_some (q0 : Option Addr) (cap : Nat) (L : List Sa) (w : World) (hR : SActs w q0 L) (hf : sewB L = true) :
    Calls Try.prog 8 #[.slice q0 L.length cap] w fun e w' => e = .returned (.bool true) ∧ Below w.heap.size w w' := by
  have hF := sew_any q0 cap L w hR
  unfold SewP at hF
  rw [hf] at hF
  obtain ⟨h50, hL⟩ := sewB_yes hf
  have HRR := Lib.hid hR
  have HL := Lib.hid hL
  obtain ⟨N, hN⟩ : ∃ N, L.length = N := ⟨_, rfl⟩
  have HN := Lib.hid hN
  rw [hN] at hF h50 ⊢
  have HF := Lib.hid hF
  clear hR hf hL hN hF
  go_enter Try.func8, Try.ntmps8
  go_wp2_with (go_at_call 35; refine HF.out.mono ?_; rintro e w1 ⟨rfl, rfl⟩; clear HF)
  refine (Kr.start w w (Below.refl _ _) 1000 5 (by decide) (by decide) (by decide) (by decide)).mono ?_
  rintro e w1 ⟨x, rfl, k1, _⟩
  have K1 := Lib.hid k1
  clear k1
  go_upto_region 5 with (go_at_call 34; refine (swnew_any _).mono ?_; rintro e w2 ⟨rfl, rfl⟩)
  have SK := Lib.hid (K1.out.sweeper rfl)
  obtain ⟨s, hs⟩ : ∃ s, w1.heap.size = s := ⟨_, rfl⟩
  rw [hs] at SK
  try simp only [hs]
  clear hs K1
  generalize w1.alloc (.cells (swCs 0 0 0) 102) = W2 at *
  go_upto_region 7 with (fail)
  obtain ⟨Bm, hBm⟩ : ∃ Bm, W2.heap.size = Bm := ⟨_, rfl⟩
  have MS := Lib.hid (Ms.start SK.out hBm)
  try simp only [hBm]
  clear hBm SK
  generalize ((W2.alloc (.cells #[.int .i64 1000, .slice none 0 0, .slice none 0 0, .slice none 0 0] 73)).alloc (.cells #[.int .i64 0, .int .i64 0, .int .u64 0] 75)) = W4 at *
  have PL : Hid (Pl w W4 0 x s Bm (fun _ => False) ⟨[], [], []⟩ ⟨none, 0, none, 0, none, 0, []⟩ 0 0 0) := ⟨MS.out, Nat.zero_le _, Nat.zero_le _, by decide, Nat.zero_le _, Nat.zero_le _⟩
  clear MS
  go_wp2_with fail
  go_loopg [3, 5, 8] N (fun r s3 s5 s8 wr => ∃ (k x s : Nat) (P : Nat → Prop) (d : Dx) (a : Dp) (n i rd : Nat), r + k = N ∧ s3 = .pointer (some ⟨x, 0, none⟩) ∧ s5 = .pointer (some ⟨s, 0, none⟩) ∧ s8 = .int .i64 (k : Int) ∧ Pl w wr k x s Bm P d a n i rd)
  case atStart => exact ⟨0, x, s, _, _, _, 0, 0, 0, by omega, rfl, rfl, rfl, PL.out⟩
  case round =>
    clear PL
    obtain ⟨k, x, s, P, d, a, n, i, rd, hk, rfl, rfl, rfl, hpl⟩ := hrel
    have HK := Lib.hid hk
    have PL := Lib.hid hpl
    have hkN : k ≤ N := by omega
    clear hk hpl
    by_cases hlt : k < N
    · obtain ⟨X, hX⟩ : ∃ X, L[k]? = some X := ⟨_, List.getElem?_eq_getElem (by rw [HN.out]; exact hlt)⟩
      have hXs := HL.out X (List.mem_of_getElem? hX)
      obtain ⟨-, hst, -⟩ := HRR.out k X hX
      obtain ⟨hok, -, blk, off, rfl, hbl, hc⟩ := (HRR.out.below PL.out.ms.1.bel) k X hX
      have c0 := hc 0 (by decide)
      have c1 := hc 1 (by decide)
      have c2 := hc 2 (by decide)
      have c3 := hc 3 (by decide)
      obtain ⟨what, id, p, cp, ts, nn⟩ := X
      simp only [sacs, List.getElem?_cons_succ, List.getElem?_cons_zero, Nat.add_zero] at c0 c1 c2 c3
      have hts : ts.length ≤ 20 := hXs.1
      have hnn : nn ≤ 100 := hXs.2.1
      have hidb : id ≤ 18446744073709551615 := hok.1
      have HRD : Hid (∀ w', Below w.heap.size w w' → Reads w' (.slice p ts.length cp) (ts.map encStr)) := fun w' hb => (hst.below hb).reads (by omega)
      clear hX hXs hok hst hc
      go_upto_region 13 with (fail)
      clear c0 c1 c2 c3
      have hbl2 : Below wr.heap.size wr (wr.alloc (.cells #[.int .i64 what, .int .u64 (id : Int), .slice p ts.length cp, .int .i64 nn] 78)) := (Below.refl _ _).alloc (Nat.le_refl _) _
      have HBE : Hid (Blk (wr.alloc (.cells #[.int .i64 what, .int .u64 (id : Int), .slice p ts.length cp, .int .i64 nn] 78)) wr.heap.size 78 #[.int .i64 what, .int .u64 (id : Int), .slice p ts.length cp, .int .i64 nn]) := Blk.new _ _ _
      have PL := Lib.hid (PL.out.quiet hbl2)
      obtain ⟨E, hE⟩ : ∃ E, wr.heap.size = E := ⟨_, rfl⟩
      rw [hE] at HBE
      try simp only [hE]
      clear hE hbl2
      generalize wr.alloc (.cells #[.int .i64 what, .int .u64 (id : Int), .slice p ts.length cp, .int .i64 nn] 78) = W1 at *
      have d0 := Blk.cell HBE.out 0
      have d1 := Blk.cell HBE.out 1
      have d2 := Blk.cell HBE.out 2
      have d3 := Blk.cell HBE.out 3
      simp only [List.getElem?_toArray, List.getElem?_cons_zero, List.getElem?_cons_succ] at d0 d1 d2 d3
      go_upto_block 2 with (fail)
      go_cut [3, 5] (fun s3 s5 wx => ∃ (x' s' : Nat) (P' : Nat → Prop) (d' : Dx) (a' : Dp) (n' i' rd' : Nat), s3 = .pointer (some ⟨x', 0, none⟩) ∧ s5 = .pointer (some ⟨s', 0, none⟩) ∧ Pl w wx (k + 1) x' s' Bm P' d' a' n' i' rd')
      case first =>
        have HNF : Hid (nnF k ≤ 31000) := nnF_le k (by omega)
        have HNX : Hid (nnF (k + 1) = nnF k + 20 * k + 128) := rfl
        have HFA := Lib.hid PL.out.ms.facts
        have HAL := Lib.hid PL.out.al
        have HSLn := Lib.hid PL.out.sl
        obtain ⟨⟨s0, s1, s2⟩, m0, m1, m2, m3⟩ := PL.out.ms.2.cells
        by_cases w0 : what = 0
        · subst w0
          obtain ⟨M, hM⟩ : ∃ M, d.all.length = M := ⟨_, rfl⟩
          have HMM := Lib.hid hM
          rw [hM] at m2
          go_upto_if 80 with (fail)
          go_cut [10] (fun s10 wx => ∃ z : Nat, s10 = .int .u64 (z : Int) ∧ z ≤ 18446744073709551615 ∧ W1 = wx)
          case first =>
            rcases Nat.eq_zero_or_pos M with hM0 | hM0
            · subst hM0
              clear hM
              go_wp2_with fail
              go_meet
              exact ⟨id, rfl, hidb, rfl⟩
            · obtain ⟨m, rfl⟩ : ∃ m, M = m + 1 := ⟨M - 1, by omega⟩
              obtain ⟨en, hen⟩ : ∃ en, d.all[m]? = some en := ⟨_, List.getElem?_eq_getElem (by rw [hM]; omega)⟩
              obtain ⟨c, hc⟩ := PL.out.ms.2.dx.ec hen
              obtain ⟨gA, hp, hg, -, -, hcell⟩ := PL.out.ms.2.dx.all.at_ (by rw [hM]; omega)
              have n0 := hcell (m * 4 + 0) _ ((ens_get hen hc 0 (by decide)).trans rfl)
              rw [hp] at m2
              simp only [Nat.add_zero] at n0
              have hm1 : ((m + 1 : Nat) : Int) - 1 = (m : Int) := by omega
              have hm2 : (0 : Int) < ((m + 1 : Nat) : Int) := by omega
              have hm3 : (0 : Int) < (m : Int) + 1 := by omega
              have hml : (m : Int) ≤ 100000 := by have := HAL.out; rw [hM] at this; omega
              obtain ⟨ei, hei⟩ : ∃ ei, en.id = ei := ⟨_, rfl⟩
              rw [hei] at n0
              obtain ⟨z, hz1, hz2⟩ := u64_nat ((ei : Int) + (id : Int))
              clear hcell hc hen hp hg hei hM
              go_wp2_with fail
              go_meet
              exact ⟨z, rfl, hz2, rfl⟩
          case rest =>
            clear hM
            rw [← HMM.out] at m2
            obtain ⟨z, rfl, hz, rfl⟩ := hcut
            obtain ⟨⟨dn, ns, er⟩, hadd⟩ : ∃ r, d.add 1000 z ts = r := ⟨_, rfl⟩
            have hsl := add_sl 1000 d z ts
            rw [hadd] at hsl
            simp only at hsl
            have HADD := Lib.hid hadd
            have HSL := Lib.hid hsl
            have hM := PL.out.ms.addm HFA.out.1 (by omega) (by omega) (by have := HAL.out; omega) (by have := HSLn.out; omega) z hz (.slice p ts.length cp) ts (HRD.out _ PL.out.ms.1.bel) (by omega) hadd
            unfold dixV dixCs at hM
            have HM := Lib.hid hM
            clear hM hadd hsl
            go_upto_region 23 with (go_at_call 36; refine HM.out.mono ?_; rintro e w5 ⟨a1, q1, c1, rfl, hd5, b5⟩)
            have hal : Below w5.heap.size w5 (w5.alloc (.cells #[.int .i64 1000, .slice a1.p dn.nm.length a1.c, .slice a1.pA dn.all.length a1.cA, .slice a1.pS dn.sl.length a1.cS] 73)) := (Below.refl _ _).alloc (Nat.le_refl _) _
            have hbt : Below W1.heap.size W1 (w5.alloc (.cells #[.int .i64 1000, .slice a1.p dn.nm.length a1.c, .slice a1.pA dn.all.length a1.cA, .slice a1.pS dn.sl.length a1.cS] 73)) := b5.trans (hal.mono b5.size)
            have MS6 := Lib.hid (PL.out.ms.grow hbt)
            have HD6 : Hid (Dix (w5.alloc (.cells #[.int .i64 1000, .slice a1.p dn.nm.length a1.c, .slice a1.pA dn.all.length a1.cA, .slice a1.pS dn.sl.length a1.cS] 73)) (Nw W1 (w5.alloc (.cells #[.int .i64 1000, .slice a1.p dn.nm.length a1.c, .slice a1.pA dn.all.length a1.cA, .slice a1.pS dn.sl.length a1.cS] 73)) P) dn a1) := (hd5.below hal).more (fun g hg => hg.imp (fun h => h) (fun h => ⟨h.1, Nat.lt_of_lt_of_le h.2 hal.size⟩))
            have HBT : Hid (Blk (w5.alloc (.cells #[.int .i64 1000, .slice a1.p dn.nm.length a1.c, .slice a1.pA dn.all.length a1.cA, .slice a1.pS dn.sl.length a1.cS] 73)) w5.heap.size 73 (dixCs 1000 dn a1)) := Blk.new _ _ _
            have HTN : Hid (Nw W1 (w5.alloc (.cells #[.int .i64 1000, .slice a1.p dn.nm.length a1.c, .slice a1.pA dn.all.length a1.cA, .slice a1.pS dn.sl.length a1.cS] 73)) P w5.heap.size) := .inr ⟨b5.size, HBT.out.lt⟩
            have HBE6 := Lib.hid (Blk.below HBE.out hbt HBE.out.lt)
            obtain ⟨T, hT⟩ : ∃ T, w5.heap.size = T := ⟨_, rfl⟩
            rw [hT] at HBT HTN
            try simp only [hT]
            clear hT hal hbt hd5 b5 s0 s1 s2 m0 m1 m2 m3 d0 d1 d2 d3
            obtain ⟨P6, hP6⟩ : ∃ P6, Nw W1 (w5.alloc (.cells #[.int .i64 1000, .slice a1.p dn.nm.length a1.c, .slice a1.pA dn.all.length a1.cA, .slice a1.pS dn.sl.length a1.cS] 73)) P = P6 := ⟨_, rfl⟩
            change Hid ((Nw W1 (w5.alloc (.cells #[.int .i64 1000, .slice a1.p dn.nm.length a1.c, .slice a1.pA dn.all.length a1.cA, .slice a1.pS dn.sl.length a1.cS] 73)) P) T) at HTN
            rw [hP6] at MS6 HD6 HTN
            clear hP6
            generalize w5.alloc (.cells #[.int .i64 1000, .slice a1.p dn.nm.length a1.c, .slice a1.pA dn.all.length a1.cA, .slice a1.pS dn.sl.length a1.cS] 73) = W6 at *
            have d0 := Blk.cell HBE6.out 0
            have d1 := Blk.cell HBE6.out 1
            have d2 := Blk.cell HBE6.out 2
            have d3 := Blk.cell HBE6.out 3
            simp only [List.getElem?_toArray, List.getElem?_cons_zero, List.getElem?_cons_succ] at d0 d1 d2 d3
            have hA := MS6.out.addo (by have := HNF.out; omega) (by omega) (by omega) z hz (.slice p ts.length cp) ts (HRD.out _ MS6.out.1.bel) (by omega) HADD.out
            have HA := Lib.hid hA
            clear hA HM
            go_wp2_with fail
            refine HA.out.mono ?_
            rintro e w7 ⟨v7, rfl, ms7, o7⟩
            have MS7 := Lib.hid ms7
            have HD7 := Lib.hid (HD6.out.only o7 (fun g hg h => h.1 (.inl hg)))
            have HBT7 := Lib.hid (Blk.only HBT.out o7 (fun h => h.1 (.inl HTN.out)))
            obtain ⟨-, m0, m1, m2, m3⟩ := ms7.2.cells
            obtain ⟨-, f0, f1, f2, f3⟩ := ms7.2.frozens
            have y0 := Blk.cell HBT7.out 0
            have y1 := Blk.cell HBT7.out 1
            have y2 := Blk.cell HBT7.out 2
            have y3 := Blk.cell HBT7.out 3
            simp only [List.getElem?_toArray, List.getElem?_cons_zero, List.getElem?_cons_succ] at y0 y1 y2 y3
            clear ms7 o7 d0 d1 d2 d3
            go_wp2_with fail
            go_meet
            exact ⟨x, s, _, dn, a1, n, i, rd, rfl, rfl, ⟨(MS7.out.store HD7.out).mono (by omega) (by rw [HNX.out]; omega), by have := HSL.out.1; have := HSLn.out; omega, by have := HSL.out.2; have := HAL.out; omega, PL.out.n64, PL.out.ib, by have := PL.out.rb; omega⟩⟩
        · by_cases w1 : what = 1
          · subst w1
            obtain ⟨⟨dn, ns, er⟩, hdrop⟩ : ∃ r, d.drop id = r := ⟨_, rfl⟩
            have hsl := drop_sl d id
            rw [hdrop] at hsl
            simp only at hsl
            have HDROP := Lib.hid hdrop
            have HSL := Lib.hid hsl
            have hM := PL.out.ms.dropm HFA.out.1 (by omega) (by have := HAL.out; omega) id hdrop
            unfold dixV dixCs at hM
            have HM := Lib.hid hM
            clear hM hdrop hsl
            go_upto_region 29 with (go_at_call 37; refine HM.out.mono ?_; rintro e w5 ⟨a1, v1, rfl, hd5, b5⟩)
            have hal : Below w5.heap.size w5 (w5.alloc (.cells #[.int .i64 1000, .slice a1.p dn.nm.length a1.c, .slice a1.pA dn.all.length a1.cA, .slice a1.pS dn.sl.length a1.cS] 73)) := (Below.refl _ _).alloc (Nat.le_refl _) _
            have hbt : Below W1.heap.size W1 (w5.alloc (.cells #[.int .i64 1000, .slice a1.p dn.nm.length a1.c, .slice a1.pA dn.all.length a1.cA, .slice a1.pS dn.sl.length a1.cS] 73)) := b5.trans (hal.mono b5.size)
            have MS6 := Lib.hid (PL.out.ms.grow hbt)
            have HD6 : Hid (Dix (w5.alloc (.cells #[.int .i64 1000, .slice a1.p dn.nm.length a1.c, .slice a1.pA dn.all.length a1.cA, .slice a1.pS dn.sl.length a1.cS] 73)) (Nw W1 (w5.alloc (.cells #[.int .i64 1000, .slice a1.p dn.nm.length a1.c, .slice a1.pA dn.all.length a1.cA, .slice a1.pS dn.sl.length a1.cS] 73)) P) dn a1) := (hd5.below hal).more (fun g hg => hg.imp (fun h => h) (fun h => ⟨h.1, Nat.lt_of_lt_of_le h.2 hal.size⟩))
            have HBT : Hid (Blk (w5.alloc (.cells #[.int .i64 1000, .slice a1.p dn.nm.length a1.c, .slice a1.pA dn.all.length a1.cA, .slice a1.pS dn.sl.length a1.cS] 73)) w5.heap.size 73 (dixCs 1000 dn a1)) := Blk.new _ _ _
            have HTN : Hid (Nw W1 (w5.alloc (.cells #[.int .i64 1000, .slice a1.p dn.nm.length a1.c, .slice a1.pA dn.all.length a1.cA, .slice a1.pS dn.sl.length a1.cS] 73)) P w5.heap.size) := .inr ⟨b5.size, HBT.out.lt⟩
            have HBE6 := Lib.hid (Blk.below HBE.out hbt HBE.out.lt)
            obtain ⟨T, hT⟩ : ∃ T, w5.heap.size = T := ⟨_, rfl⟩
            rw [hT] at HBT HTN
            try simp only [hT]
            clear hT hal hbt hd5 b5 s0 s1 s2 m0 m1 m2 m3 d0 d1 d2 d3
            obtain ⟨P6, hP6⟩ : ∃ P6, Nw W1 (w5.alloc (.cells #[.int .i64 1000, .slice a1.p dn.nm.length a1.c, .slice a1.pA dn.all.length a1.cA, .slice a1.pS dn.sl.length a1.cS] 73)) P = P6 := ⟨_, rfl⟩
            change Hid ((Nw W1 (w5.alloc (.cells #[.int .i64 1000, .slice a1.p dn.nm.length a1.c, .slice a1.pA dn.all.length a1.cA, .slice a1.pS dn.sl.length a1.cS] 73)) P) T) at HTN
            rw [hP6] at MS6 HD6 HTN
            clear hP6
            generalize w5.alloc (.cells #[.int .i64 1000, .slice a1.p dn.nm.length a1.c, .slice a1.pA dn.all.length a1.cA, .slice a1.pS dn.sl.length a1.cS] 73) = W6 at *
            have d0 := Blk.cell HBE6.out 0
            have d1 := Blk.cell HBE6.out 1
            have d2 := Blk.cell HBE6.out 2
            have d3 := Blk.cell HBE6.out 3
            simp only [List.getElem?_toArray, List.getElem?_cons_zero, List.getElem?_cons_succ] at d0 d1 d2 d3
            have hA := MS6.out.dropo (by have := HNF.out; omega) (by omega) id hidb HDROP.out
            have HA := Lib.hid hA
            clear hA HM
            go_wp2_with fail
            refine HA.out.mono ?_
            rintro e w7 ⟨v7, rfl, ms7, o7⟩
            have MS7 := Lib.hid ms7
            have HD7 := Lib.hid (HD6.out.only o7 (fun g hg h => h.1 (.inl hg)))
            have HBT7 := Lib.hid (Blk.only HBT.out o7 (fun h => h.1 (.inl HTN.out)))
            obtain ⟨-, m0, m1, m2, m3⟩ := ms7.2.cells
            obtain ⟨-, f0, f1, f2, f3⟩ := ms7.2.frozens
            have y0 := Blk.cell HBT7.out 0
            have y1 := Blk.cell HBT7.out 1
            have y2 := Blk.cell HBT7.out 2
            have y3 := Blk.cell HBT7.out 3
            simp only [List.getElem?_toArray, List.getElem?_cons_zero, List.getElem?_cons_succ] at y0 y1 y2 y3
            clear ms7 o7 d0 d1 d2 d3
            go_wp2_with fail
            go_meet
            exact ⟨x, s, _, dn, a1, n, i, rd, rfl, rfl, ⟨(MS7.out.store HD7.out).mono (by omega) (by rw [HNX.out]; omega), by rw [HSL.out.1]; have := HSLn.out; omega, by have := HSL.out.2; have := HAL.out; omega, PL.out.n64, PL.out.ib, by have := PL.out.rb; omega⟩⟩
          · by_cases w2 : what = 2
            · subst w2
              by_cases hneg : nn < 0
              · have hM := PL.out.ms.negx (by have := HNF.out; omega) nn hneg
                have HM := Lib.hid hM
                clear hM
                go_wp2_with fail
                refine HM.out.mono ?_
                rintro e w5 ⟨rfl, ms5⟩
                have MS5 := Lib.hid ms5
                clear ms5 HM
                go_wp2_with fail
                go_meet
                exact ⟨x, s, P, d, a, n, i, rd, rfl, rfl, (⟨MS5.out, PL.out.sl, PL.out.al, PL.out.n64, PL.out.ib, PL.out.rb⟩ : Pl w w5 k x s Bm P d a n i rd).next⟩
              · obtain ⟨m, rfl⟩ : ∃ m : Nat, nn = (m : Int) := ⟨nn.toNat, by omega⟩
                have hlt0 : ∀ s ∈ d.sl, s.1 < 65536 := fun s hs => by have := HFA.out.1.nlt s hs; omega
                obtain ⟨⟨dn, n1, i1, fin1, lk1, gn1⟩, hr⟩ : ∃ r, swGo m d n i 0 0 = r := ⟨_, rfl⟩
                have hg1 := go_is0 m d n i 0 0 PL.out.n64 hlt0
                rw [hr] at hg1
                have hn1 : n1 < 65536 := hg1.n64
                have hi1 : i1 ≤ 1000 := by have := hg1.ib; have := PL.out.ib; have := HSLn.out; simp only at *; omega
                have hlk1 : lk1 ≤ 100 := by have := hg1.lks.2; simp only at this; omega
                have hgn1 : gn1 ≤ 1000 := by have := hg1.size; have := HSLn.out; simp only at *; omega
                have HSL : Hid (dn.sl.length ≤ d.sl.length ∧ dn.all = d.all) := ⟨by have := hg1.size; simp only at this; omega, hg1.all⟩
                obtain ⟨rd1, hrd1⟩ : ∃ rd1, (if fin1 = true then rd + 1 else rd) = rd1 := ⟨_, rfl⟩
                have hrdl : rd1 ≤ k + 1 := by have := PL.out.rb; rw [← hrd1]; split <;> omega
                have hSM := PL.out.ms.stepm HFA.out.1 (by have := HAL.out; omega) (by have := HSLn.out; omega) m (by omega) PL.out.n64 (by have := PL.out.ib; omega) (by have := PL.out.rb; omega) hr
                unfold sdV sdCs dixV dixCs at hSM
                simp only at hSM
                rw [hrd1] at hSM
                have HSM := Lib.hid hSM
                have HRR1 := Lib.hid hr
                have HRD1 := Lib.hid hrd1
                clear hlt0 hSM hr hg1 hrd1
                go_upto_region 38 with (go_at_call 38; refine HSM.out.mono ?_; rintro e w5 ⟨a1, rfl, hd5, b5⟩)
                have hal : Below w5.heap.size w5 ((w5.alloc (.cells #[.int .i64 (n1 : Int), .int .i64 (i1 : Int), .int .u64 (rd1 : Int)] 75)).alloc (.cells #[.int .i64 1000, .slice a1.p dn.nm.length a1.c, .slice a1.pA dn.all.length a1.cA, .slice a1.pS dn.sl.length a1.cS] 73)) := ((Below.refl _ _).alloc (Nat.le_refl _) _).alloc (by simp) _
                have hbt : Below W1.heap.size W1 ((w5.alloc (.cells #[.int .i64 (n1 : Int), .int .i64 (i1 : Int), .int .u64 (rd1 : Int)] 75)).alloc (.cells #[.int .i64 1000, .slice a1.p dn.nm.length a1.c, .slice a1.pA dn.all.length a1.cA, .slice a1.pS dn.sl.length a1.cS] 73)) := b5.trans (hal.mono b5.size)
                have MS6 := Lib.hid (PL.out.ms.grow hbt)
                have HD6 : Hid (Dix ((w5.alloc (.cells #[.int .i64 (n1 : Int), .int .i64 (i1 : Int), .int .u64 (rd1 : Int)] 75)).alloc (.cells #[.int .i64 1000, .slice a1.p dn.nm.length a1.c, .slice a1.pA dn.all.length a1.cA, .slice a1.pS dn.sl.length a1.cS] 73)) (Nw W1 ((w5.alloc (.cells #[.int .i64 (n1 : Int), .int .i64 (i1 : Int), .int .u64 (rd1 : Int)] 75)).alloc (.cells #[.int .i64 1000, .slice a1.p dn.nm.length a1.c, .slice a1.pA dn.all.length a1.cA, .slice a1.pS dn.sl.length a1.cS] 73)) P) dn a1) := (hd5.below hal).more (fun g hg => hg.imp (fun h => h) (fun h => ⟨h.1, Nat.lt_of_lt_of_le h.2 hal.size⟩))
                have HBT : Hid (Blk ((w5.alloc (.cells #[.int .i64 (n1 : Int), .int .i64 (i1 : Int), .int .u64 (rd1 : Int)] 75)).alloc (.cells #[.int .i64 1000, .slice a1.p dn.nm.length a1.c, .slice a1.pA dn.all.length a1.cA, .slice a1.pS dn.sl.length a1.cS] 73)) w5.heap.size 75 (sdCs n1 i1 rd1)) := Blk.alloc (Blk.new w5 _ _) _
                have HBU : Hid (Blk ((w5.alloc (.cells #[.int .i64 (n1 : Int), .int .i64 (i1 : Int), .int .u64 (rd1 : Int)] 75)).alloc (.cells #[.int .i64 1000, .slice a1.p dn.nm.length a1.c, .slice a1.pA dn.all.length a1.cA, .slice a1.pS dn.sl.length a1.cS] 73)) (w5.heap.size + 1) 73 (dixCs 1000 dn a1)) := by
                  have := Blk.new (w5.alloc (.cells #[.int .i64 (n1 : Int), .int .i64 (i1 : Int), .int .u64 (rd1 : Int)] 75)) 73 (dixCs 1000 dn a1)
                  rw [show (w5.alloc (.cells #[.int .i64 (n1 : Int), .int .i64 (i1 : Int), .int .u64 (rd1 : Int)] 75)).heap.size = w5.heap.size + 1 by simp] at this
                  exact this
                have HTN : Hid (Nw W1 ((w5.alloc (.cells #[.int .i64 (n1 : Int), .int .i64 (i1 : Int), .int .u64 (rd1 : Int)] 75)).alloc (.cells #[.int .i64 1000, .slice a1.p dn.nm.length a1.c, .slice a1.pA dn.all.length a1.cA, .slice a1.pS dn.sl.length a1.cS] 73)) P w5.heap.size) := .inr ⟨b5.size, HBT.out.lt⟩
                have HUN : Hid (Nw W1 ((w5.alloc (.cells #[.int .i64 (n1 : Int), .int .i64 (i1 : Int), .int .u64 (rd1 : Int)] 75)).alloc (.cells #[.int .i64 1000, .slice a1.p dn.nm.length a1.c, .slice a1.pA dn.all.length a1.cA, .slice a1.pS dn.sl.length a1.cS] 73)) P (w5.heap.size + 1)) := .inr ⟨Nat.le_succ_of_le b5.size, HBU.out.lt⟩
                have HBE6 := Lib.hid (Blk.below HBE.out hbt HBE.out.lt)
                obtain ⟨T, hT⟩ : ∃ T, w5.heap.size = T := ⟨_, rfl⟩
                rw [hT] at HBT HTN HBU HUN
                try simp only [hT]
                clear hT hal hbt hd5 b5 s0 s1 s2 m0 m1 m2 m3 d0 d1 d2 d3
                obtain ⟨P6, hP6⟩ : ∃ P6, Nw W1 ((w5.alloc (.cells #[.int .i64 (n1 : Int), .int .i64 (i1 : Int), .int .u64 (rd1 : Int)] 75)).alloc (.cells #[.int .i64 1000, .slice a1.p dn.nm.length a1.c, .slice a1.pA dn.all.length a1.cA, .slice a1.pS dn.sl.length a1.cS] 73)) P = P6 := ⟨_, rfl⟩
                change Hid ((Nw W1 ((w5.alloc (.cells #[.int .i64 (n1 : Int), .int .i64 (i1 : Int), .int .u64 (rd1 : Int)] 75)).alloc (.cells #[.int .i64 1000, .slice a1.p dn.nm.length a1.c, .slice a1.pA dn.all.length a1.cA, .slice a1.pS dn.sl.length a1.cS] 73)) P) T) at HTN
                change Hid ((Nw W1 ((w5.alloc (.cells #[.int .i64 (n1 : Int), .int .i64 (i1 : Int), .int .u64 (rd1 : Int)] 75)).alloc (.cells #[.int .i64 1000, .slice a1.p dn.nm.length a1.c, .slice a1.pA dn.all.length a1.cA, .slice a1.pS dn.sl.length a1.cS] 73)) P) (T + 1)) at HUN
                rw [hP6] at MS6 HD6 HTN HUN
                clear hP6
                generalize (w5.alloc (.cells #[.int .i64 (n1 : Int), .int .i64 (i1 : Int), .int .u64 (rd1 : Int)] 75)).alloc (.cells #[.int .i64 1000, .slice a1.p dn.nm.length a1.c, .slice a1.pA dn.all.length a1.cA, .slice a1.pS dn.sl.length a1.cS] 73) = W6 at *
                have d0 := Blk.cell HBE6.out 0
                have d1 := Blk.cell HBE6.out 1
                have d2 := Blk.cell HBE6.out 2
                have d3 := Blk.cell HBE6.out 3
                simp only [List.getElem?_toArray, List.getElem?_cons_zero, List.getElem?_cons_succ] at d0 d1 d2 d3
                have hA := MS6.out.stepso m (by have := HNF.out; omega) PL.out.n64 (by have := PL.out.ib; omega) (by have := PL.out.rb; omega) HRR1.out
                simp only at hA
                rw [HRD1.out] at hA
                have HA := Lib.hid hA
                clear hA HSM
                go_wp2_with fail
                refine HA.out.mono ?_
                rintro e w7 ⟨rfl, ms7, o7⟩
                have MS7 := Lib.hid ms7
                have HD7 := Lib.hid (HD6.out.only o7 (fun g hg h => h.1 (.inl hg)))
                have HBT7 := Lib.hid (Blk.only HBT.out o7 (fun h => h.1 (.inl HTN.out)))
                have HBU7 := Lib.hid (Blk.only HBU.out o7 (fun h => h.1 (.inl HUN.out)))
                have hTm : T ≠ Bm ∧ T ≠ Bm + 1 := (ms7.2.pl T HTN.out).2
                have hUm : T + 1 ≠ Bm ∧ T + 1 ≠ Bm + 1 := (ms7.2.pl (T + 1) HUN.out).2
                clear ms7 o7 d0 d1 d2 d3
                have y0 := Blk.cell HBT7.out 0
                have Y0 : w7.drew.cell? ⟨T, 0, none⟩ = _ := Blk.cell HBT7.out 0
                have y1 := Blk.cell HBT7.out 1
                have Y1 : w7.drew.cell? ⟨T, 1, none⟩ = _ := Blk.cell HBT7.out 1
                have y2 := Blk.cell HBT7.out 2
                have Y2 : w7.drew.cell? ⟨T, 2, none⟩ = _ := Blk.cell HBT7.out 2
                have z0 := Blk.cell HBU7.out 0
                have Z0 : w7.drew.cell? ⟨T + 1, 0, none⟩ = _ := Blk.cell HBU7.out 0
                have z1 := Blk.cell HBU7.out 1
                have Z1 : w7.drew.cell? ⟨T + 1, 1, none⟩ = _ := Blk.cell HBU7.out 1
                have z2 := Blk.cell HBU7.out 2
                have Z2 : w7.drew.cell? ⟨T + 1, 2, none⟩ = _ := Blk.cell HBU7.out 2
                have z3 := Blk.cell HBU7.out 3
                have Z3 : w7.drew.cell? ⟨T + 1, 3, none⟩ = _ := Blk.cell HBU7.out 3
                have s0 := Blk.cell MS7.out.2.bw 0
                have S0 : w7.drew.cell? ⟨Bm + 1, 0, none⟩ = _ := Blk.cell MS7.out.2.bw 0
                have fs0 := Blk.frozen MS7.out.2.bw 0
                have Fs0 : w7.drew.frozen? ⟨Bm + 1, 0, none⟩ = false := Blk.frozen MS7.out.2.bw 0
                have s1 := Blk.cell MS7.out.2.bw 1
                have S1 : w7.drew.cell? ⟨Bm + 1, 1, none⟩ = _ := Blk.cell MS7.out.2.bw 1
                have fs1 := Blk.frozen MS7.out.2.bw 1
                have Fs1 : w7.drew.frozen? ⟨Bm + 1, 1, none⟩ = false := Blk.frozen MS7.out.2.bw 1
                have s2 := Blk.cell MS7.out.2.bw 2
                have S2 : w7.drew.cell? ⟨Bm + 1, 2, none⟩ = _ := Blk.cell MS7.out.2.bw 2
                have fs2 := Blk.frozen MS7.out.2.bw 2
                have Fs2 : w7.drew.frozen? ⟨Bm + 1, 2, none⟩ = false := Blk.frozen MS7.out.2.bw 2
                have m0 := Blk.cell MS7.out.2.bm 0
                have M0 : w7.drew.cell? ⟨Bm, 0, none⟩ = _ := Blk.cell MS7.out.2.bm 0
                have fm0 := Blk.frozen MS7.out.2.bm 0
                have Fm0 : w7.drew.frozen? ⟨Bm, 0, none⟩ = false := Blk.frozen MS7.out.2.bm 0
                have m1 := Blk.cell MS7.out.2.bm 1
                have M1 : w7.drew.cell? ⟨Bm, 1, none⟩ = _ := Blk.cell MS7.out.2.bm 1
                have fm1 := Blk.frozen MS7.out.2.bm 1
                have Fm1 : w7.drew.frozen? ⟨Bm, 1, none⟩ = false := Blk.frozen MS7.out.2.bm 1
                have m2 := Blk.cell MS7.out.2.bm 2
                have M2 : w7.drew.cell? ⟨Bm, 2, none⟩ = _ := Blk.cell MS7.out.2.bm 2
                have fm2 := Blk.frozen MS7.out.2.bm 2
                have Fm2 : w7.drew.frozen? ⟨Bm, 2, none⟩ = false := Blk.frozen MS7.out.2.bm 2
                have m3 := Blk.cell MS7.out.2.bm 3
                have M3 : w7.drew.cell? ⟨Bm, 3, none⟩ = _ := Blk.cell MS7.out.2.bm 3
                have fm3 := Blk.frozen MS7.out.2.bm 3
                have Fm3 : w7.drew.frozen? ⟨Bm, 3, none⟩ = false := Blk.frozen MS7.out.2.bm 3
                simp only [List.getElem?_toArray, List.getElem?_cons_zero, List.getElem?_cons_succ] at y0 y1 y2 Y0 Y1 Y2 z0 z1 z2 z3 Z0 Z1 Z2 Z3 s0 s1 s2 S0 S1 S2 m0 m1 m2 m3 M0 M1 M2 M3
                have u1 : ¬ T = Bm := hTm.1
                have u2 : ¬ T = Bm + 1 := hTm.2
                have u3 : ¬ T + 1 = Bm := hUm.1
                have u4 : ¬ T + 1 = Bm + 1 := hUm.2
                clear hTm hUm
                go_upto_region 40 with (fail)
                go_region
                go_wp2_with fail
                go_meet
                have hp := MS7.out.sweep n1 i1 rd1
                have ho : Only (fun g => g = Bm + 1) w7 (putS w7 (Bm + 1) n1 i1 rd1) := (((Only.refl (fun g => g = Bm + 1) w7).setCell1 (.inl rfl) 0 _).setCell1 (.inl rfl) 1 _).setCell1 (.inl rfl) 2 _
                have hq := hp.store (HD7.out.only ho (fun g hg he => (MS7.out.2.pl g hg).2.2 he))
                have hz := hq.quiet (w' := (putX (putS w7 (Bm + 1) n1 i1 rd1) Bm 1000 dn a1).drew) (Below.refl _ _).drew
                exact ⟨x, s, P6, dn, a1, n1, i1, rd1, rfl, rfl, ⟨hz.mono (by omega) (by rw [HNX.out]; omega), by have := HSL.out.1; have := HSLn.out; omega, by rw [HSL.out.2]; have := HAL.out; omega, hn1, hi1, hrdl⟩⟩
            · by_cases w3 : what = 3
              · subst w3
                have hM := PL.out.ms.allm (by have := HSLn.out; omega) (by have := HAL.out; omega)
                obtain ⟨dn, hdn⟩ : ∃ dn, liveSl d = dn := ⟨_, rfl⟩
                obtain ⟨wt, hwt⟩ : ∃ wt, wrongX d.all d.sl = wt := ⟨_, rfl⟩
                have HWT := Lib.hid hwt
                have HDN := Lib.hid hdn
                have HSL : Hid (dn.sl.length ≤ d.sl.length ∧ dn.all.length = d.all.length) := by rw [← hdn]; exact ⟨List.length_filter_le _ _, rfl⟩
                rw [hdn, hwt] at hM
                unfold dixV dixCs at hM
                have HM := Lib.hid hM
                clear hM hdn hwt
                go_upto_region 43 with (go_at_call 41; refine HM.out.mono ?_; rintro e w5 ⟨a1, rfl, hd5, b5⟩)
                have hal : Below w5.heap.size w5 (w5.alloc (.cells #[.int .i64 1000, .slice a1.p dn.nm.length a1.c, .slice a1.pA dn.all.length a1.cA, .slice a1.pS dn.sl.length a1.cS] 73)) := (Below.refl _ _).alloc (Nat.le_refl _) _
                have hbt : Below W1.heap.size W1 (w5.alloc (.cells #[.int .i64 1000, .slice a1.p dn.nm.length a1.c, .slice a1.pA dn.all.length a1.cA, .slice a1.pS dn.sl.length a1.cS] 73)) := b5.trans (hal.mono b5.size)
                have MS6 := Lib.hid (PL.out.ms.grow hbt)
                have HD6 : Hid (Dix (w5.alloc (.cells #[.int .i64 1000, .slice a1.p dn.nm.length a1.c, .slice a1.pA dn.all.length a1.cA, .slice a1.pS dn.sl.length a1.cS] 73)) (Nw W1 (w5.alloc (.cells #[.int .i64 1000, .slice a1.p dn.nm.length a1.c, .slice a1.pA dn.all.length a1.cA, .slice a1.pS dn.sl.length a1.cS] 73)) P) dn a1) := (hd5.below hal).more (fun g hg => hg.imp (fun h => h) (fun h => ⟨h.1, Nat.lt_of_lt_of_le h.2 hal.size⟩))
                have HBT : Hid (Blk (w5.alloc (.cells #[.int .i64 1000, .slice a1.p dn.nm.length a1.c, .slice a1.pA dn.all.length a1.cA, .slice a1.pS dn.sl.length a1.cS] 73)) w5.heap.size 73 (dixCs 1000 dn a1)) := Blk.new _ _ _
                have HTN : Hid (Nw W1 (w5.alloc (.cells #[.int .i64 1000, .slice a1.p dn.nm.length a1.c, .slice a1.pA dn.all.length a1.cA, .slice a1.pS dn.sl.length a1.cS] 73)) P w5.heap.size) := .inr ⟨b5.size, HBT.out.lt⟩
                have HBE6 := Lib.hid (Blk.below HBE.out hbt HBE.out.lt)
                obtain ⟨T, hT⟩ : ∃ T, w5.heap.size = T := ⟨_, rfl⟩
                rw [hT] at HBT HTN
                try simp only [hT]
                clear hT hal hbt hd5 b5 s0 s1 s2 m0 m1 m2 m3 d0 d1 d2 d3
                obtain ⟨P6, hP6⟩ : ∃ P6, Nw W1 (w5.alloc (.cells #[.int .i64 1000, .slice a1.p dn.nm.length a1.c, .slice a1.pA dn.all.length a1.cA, .slice a1.pS dn.sl.length a1.cS] 73)) P = P6 := ⟨_, rfl⟩
                change Hid ((Nw W1 (w5.alloc (.cells #[.int .i64 1000, .slice a1.p dn.nm.length a1.c, .slice a1.pA dn.all.length a1.cA, .slice a1.pS dn.sl.length a1.cS] 73)) P) T) at HTN
                rw [hP6] at MS6 HD6 HTN
                clear hP6
                generalize w5.alloc (.cells #[.int .i64 1000, .slice a1.p dn.nm.length a1.c, .slice a1.pA dn.all.length a1.cA, .slice a1.pS dn.sl.length a1.cS] 73) = W6 at *
                have d0 := Blk.cell HBE6.out 0
                have d1 := Blk.cell HBE6.out 1
                have d2 := Blk.cell HBE6.out 2
                have d3 := Blk.cell HBE6.out 3
                simp only [List.getElem?_toArray, List.getElem?_cons_zero, List.getElem?_cons_succ] at d0 d1 d2 d3
                have hA := MS6.out.allso (b := (wt : Int)) (by have := HNF.out; omega) (by rw [HWT.out])
                rw [HDN.out] at hA
                have HA := Lib.hid hA
                clear hA HM
                go_wp2_with fail
                refine HA.out.mono ?_
                rintro e w7 ⟨rfl, ms7, o7⟩
                have MS7 := Lib.hid ms7
                have HD7 := Lib.hid (HD6.out.only o7 (fun g hg h => h.1 (.inl hg)))
                have HBT7 := Lib.hid (Blk.only HBT.out o7 (fun h => h.1 (.inl HTN.out)))
                obtain ⟨-, m0, m1, m2, m3⟩ := ms7.2.cells
                obtain ⟨-, f0, f1, f2, f3⟩ := ms7.2.frozens
                have y0 := Blk.cell HBT7.out 0
                have y1 := Blk.cell HBT7.out 1
                have y2 := Blk.cell HBT7.out 2
                have y3 := Blk.cell HBT7.out 3
                simp only [List.getElem?_toArray, List.getElem?_cons_zero, List.getElem?_cons_succ] at y0 y1 y2 y3
                clear ms7 o7 d0 d1 d2 d3
                go_wp2_with fail
                go_meet
                exact ⟨x, s, _, dn, a1, n, i, rd, rfl, rfl, ⟨(MS7.out.store HD7.out).mono (by omega) (by rw [HNX.out]; have := HSLn.out; omega), by have := HSL.out.1; have := HSLn.out; omega, by rw [HSL.out.2]; have := HAL.out; omega, PL.out.n64, PL.out.ib, by have := PL.out.rb; omega⟩⟩
              · have hC := PL.out.ms.copyi (by have := HNF.out; omega)
                have HC := Lib.hid hC
                clear hC s0 s1 s2 m0 m1 m2 m3 d1 d2 d3
                go_wp2_with fail
                refine HC.out.mono ?_
                rintro e w5 ⟨y, O, Rd, O', rfl, mc⟩
                have MC := Lib.hid mc
                clear mc HC
                go_upto_region 15 with (go_at_call 48; refine (swcopy_any MC.out.sx).mono ?_; rintro e w6 ⟨rfl, rfl⟩)
                have hal : Below w5.heap.size w5 (w5.alloc (.cells (swCs n i rd) 102)) := (Below.refl _ _).alloc (Nat.le_refl _) _
                have MC6 := Lib.hid (MC.out.below hal)
                obtain ⟨t, ht⟩ : ∃ t, w5.heap.size = t := ⟨_, rfl⟩
                have HFIN : Hid (∀ w3, Only (StepO O s) (w5.alloc (.cells (swCs n i rd) 102)) w3 → Ms w w3 P y 5 ((16 * k : Nat) : Int) (nnF k) d t n i rd Bm (Bm + 1) d a n i rd) := fun w3 ho => MC.out.fin ht ho
                try simp only [ht]
                clear ht hal MC
                generalize w5.alloc (.cells (swCs n i rd) 102) = W6 at *
                have hst := swstep_ri MC6.out.rx MC6.out.sx (fun g hg => (MC6.out.kp g (hg.imp (fun h => h) (fun h => .inl h))).2.2) 3 (by have := HNF.out; omega) PL.out.n64 (by have := PL.out.ib; omega) (by have := PL.out.rb; omega)
                obtain ⟨r, hr⟩ : ∃ r, swGo 3 d n i 0 0 = r := ⟨_, rfl⟩
                rw [hr] at hst
                have HST := Lib.hid hst
                clear hst hr
                go_wp2_with fail
                refine HST.out.mono ?_
                rintro e w7 ⟨rfl, -, -, ho⟩
                have HO := Lib.hid ho
                clear ho HST
                go_wp2_with fail
                go_meet
                exact ⟨y, t, P, d, a, n, i, rd, rfl, rfl, (⟨HFIN.out _ HO.out, PL.out.sl, PL.out.al, PL.out.n64, PL.out.ib, PL.out.rb⟩ : Pl w w7 k y t Bm P d a n i rd).next⟩
      case rest =>
        obtain ⟨x', s', P', d', a', n', i', rd', rfl, rfl, hpl2⟩ := hcut
        have PL2 := Lib.hid hpl2
        have HNF : Hid (nnF (k + 1) ≤ 31000) := nnF_le _ (by omega)
        clear hpl2 d0 d1 d2 d3 HBE PL
        obtain ⟨⟨s0, s1, s2⟩, m0, m1, m2, m3⟩ := PL2.out.ms.2.cells
        go_wp2_with fail
        refine (PL2.out.ms.atx).mono ?_
        rintro e w8 ⟨rfl, ms8⟩
        have MS8 := Lib.hid ms8
        obtain ⟨⟨s0, s1, s2⟩, m0, m1, m2, m3⟩ := ms8.2.cells
        clear ms8
        go_wp2_with fail
        refine (MS8.out.isx (by have := HNF.out; omega)).mono ?_
        rintro e w9 ⟨rfl, ms9⟩
        have MS9 := Lib.hid ms9
        clear ms9
        go_wp2_with fail
        go_roundg (N - (k + 1))
        case measure => have := HK.out; omega
        case rel => exact ⟨k + 1, x', s', P', d', a', n', i', rd', by omega, rfl, rfl, by go_num, ⟨MS9.out, PL2.out.sl, PL2.out.al, PL2.out.n64, PL2.out.ib, PL2.out.rb⟩⟩
    · obtain rfl : k = N := by omega
      go_wp2_with fail
      refine (sknown_any _).mono ?_
      rintro e w9 ⟨rfl, b9⟩
      go_wp2_with fail
      go_ret
      exact ⟨rfl, PL.out.ms.1.bel.trans (b9.mono PL.out.ms.1.bel.size)⟩
set_option maxHeartbeats 4000000 in
set_option maxRecDepth 100000 in
theorem splays_few (q0 : Option Addr) (cap : Nat) (L : List Sa) (w : World) (hR : SActs w q0 L) (hf : sewB L = false) :
    Calls Try.prog 8 #[.slice q0 L.length cap] w fun e w' => e = .returned (.bool true) ∧ Below w.heap.size w w' := by
  have hF := sew_any q0 cap L w hR
  unfold SewP at hF
  rw [hf] at hF
  have HF := Lib.hid hF
  clear hR hf hF
  go_enter Try.func8, Try.ntmps8
  go_wp2_with (go_at_call 35; refine HF.out.mono ?_; rintro e w1 ⟨rfl, rfl⟩)
  refine (sknown_any _).mono ?_
  rintro e w2 ⟨rfl, b2⟩
  go_wp2_with fail
  go_ret
  exact ⟨rfl, b2⟩
theorem splays_walk (q : Option Addr) (cap : Nat) (L : List Sa) (w : World) (hR : SActs w q L) :
    Calls Try.prog 8 #[.slice q L.length cap] w fun e w' => e = .returned (.bool true) ∧ Below w.heap.size w w' := by
  cases hf : sewB L
  · exact splays_few q cap L w hR hf
  · exact splays_some q cap L w hR hf
end Go.Proofs.Ytfpkeinknhijaaa
