/- Layer 18's step. (printed by mkrstep.py) -/
import Derived.Test.YtfpkeinknhijaaaGreatRevPs
namespace Go.Proofs.YtfpkeinknhijaaaGreat
set_option linter.unusedVariables false
open Go.RowKit Go.Maps Go.Sort

set_option maxHeartbeats 8000000 in
set_option maxRecDepth 100000 in
theorem rstep_drop {V w : World} {S P : Nat → Prop} {x : Nat} {most seed R : Int} {n : Nat} {d : Dx} {a : Dp} (k : Kr V w S x most seed R n d) (hn : n ≤ 9000) (hR0 : 0 ≤ R) (hR : R ≤ 100000) (h : Dix w P d a) (hP : ∀ g, P g → S g) (id : Nat) (hid : id ≤ 18446744073709551615) (p : Option Addr) (cp : Nat) (ts : List (List UInt8)) (nn ii : Int) (hTR : ∀ (W3 : World), Only (fun g => ¬ S g ∧ V.heap.size ≤ g) w W3 → Reads W3 (.slice p ts.length cp) (ts.map encStr)) (htl : ts.length ≤ 20) :
    Calls Tryz.prog 17 #[.pointer (some ⟨x, 0, none⟩), dixV most d a, .agg #[.int .i64 2, .int .u64 (id : Int), .slice p ts.length cp, .int .i64 nn, .int .i64 ii]] w (RStep V w S P most seed R n (d.drop id).1) := by
  obtain ⟨X0, hX0⟩ : ∃ X0, w.heap.size = X0 := ⟨_, rfl⟩
  obtain ⟨W, hW⟩ : ∃ W, (((w.alloc (.cells (dixCs most d a) 35)).alloc (.cells #[.int .i64 2, .int .u64 (id : Int), .slice p ts.length cp, .int .i64 nn, .int .i64 ii] 38)).alloc (.cells zeroX 35)) = W := ⟨_, rfl⟩
  have SQ := Lib.hid (Sq.start k h hP #[.int .i64 2, .int .u64 (id : Int), .slice p ts.length cp, .int .i64 nn, .int .i64 ii] hX0)
  rw [hW] at SQ
  have HTR := Lib.hid hTR
  have HF := Lib.hid k.facts
  have HPL : Hid (∀ g, P g → g < w.heap.size) := fun g hg => SQ.out.ss g (hP g hg)
  clear k h hTR hP
  go_enter Tryz.func17, Tryz.ntmps17
  go_upto_region 1 with (fail)
  unfold dixCs zeroX at hW
  try simp only [hX0]
  try rw [hW]
  have HX0 := Lib.hid hX0
  clear hW hX0
  obtain ⟨d0, d1, d2, d3⟩ := blk4 SQ.out.bx
  obtain ⟨c0, c1, c2, c3, c4⟩ := act5 SQ.out.ba
  obtain ⟨⟨d', ns, er⟩, hdr⟩ : ∃ r, d.drop id = r := ⟨_, rfl⟩
  have HDR := Lib.hid hdr
  have hnl : ns.length ≤ 16 := by have := drop_len HF.out.1 id; rw [hdr] at this; exact this
  have hA := xdrop_any SQ.out.dx (fun g hg => Nat.lt_of_lt_of_le (HPL.out g hg) SQ.out.bel.size) HF.out.1 HF.out.2.2.2.2.1 (by omega) (by have := HF.out.2.2.1; omega) id
  rw [hdr] at hA
  unfold dixV dixCs at hA
  have HA := Lib.hid hA
  clear hA hdr
  go_upto_region 18 with (go_at_call 11; refine HA.out.mono ?_; rintro e w5 ⟨a', v5, rfl, hv5, hd5, b5⟩; obtain ⟨q5, c5, rfl, hr5⟩ := nums_row (P := Nw W w5 P) hv5 (fun g h1 h2 => .inr ⟨h1, h2⟩); clear hv5)
  have hal : Below w5.heap.size w5 (w5.alloc (.cells #[.int .i64 most, .slice a'.p d'.nm.length a'.c, .slice a'.pA d'.all.length a'.cA, .slice a'.pS d'.sl.length a'.cS] 35)) := (Below.refl _ _).alloc (Nat.le_refl _) _
  have hbt : Below W.heap.size W (w5.alloc (.cells #[.int .i64 most, .slice a'.p d'.nm.length a'.c, .slice a'.pA d'.all.length a'.cA, .slice a'.pS d'.sl.length a'.cS] 35)) := b5.trans (hal.mono b5.size)
  obtain ⟨T0, hT0⟩ : ∃ T0, w5.heap.size = T0 := ⟨_, rfl⟩
  have SR6 : Hid (Sr V w (w5.alloc (.cells #[.int .i64 most, .slice a'.p d'.nm.length a'.c, .slice a'.pA d'.all.length a'.cA, .slice a'.pS d'.sl.length a'.cS] 35)) S P W.heap.size (T0 + 1) x most seed R n d d' a' (X0 + 1 + 1) T0) := SQ.out.hold b5 hd5 hT0
  have HBA6 := Lib.hid (Blk.below SQ.out.ba hbt SQ.out.ba.lt)
  have HRW : Hid (RowS (w5.alloc (.cells #[.int .i64 most, .slice a'.p d'.nm.length a'.c, .slice a'.pA d'.all.length a'.cA, .slice a'.pS d'.sl.length a'.cS] 35)) (fun g => S g ∨ (w.heap.size ≤ g ∧ g < T0 + 1)) q5 ns.length c5 (numsV ns)) := (hr5.below hal).more (fun g hg => by
    rcases hg with hg | hg
    · exact .inl (SQ.out.sp g hg)
    · exact .inr ⟨Nat.le_trans SQ.out.bel.size hg.1, by omega⟩)
  clear hr5
  have HLO : Hid (X0 + 1 + 1 < W.heap.size) := SQ.out.br.lt
  try simp only [hT0]
  clear hT0 hal hbt hd5 b5 d0 d1 d2 d3 c0 c1 c2 c3 c4
  generalize (w5.alloc (.cells #[.int .i64 most, .slice a'.p d'.nm.length a'.c, .slice a'.pA d'.all.length a'.cA, .slice a'.pS d'.sl.length a'.cS] 35)) = W6 at *
  have SRd : Hid (Sr V w W6.drew S P W.heap.size (T0 + 1) x most seed R n d d' a' (X0 + 1 + 1) T0) := SR6.out.below (Below.refl _ _).drew
  have hC := SRd.out.kr.dropsR (by omega) (by omega) id hid HDR.out (by omega) q5 c5 (HRW.out.below (Below.refl _ _).drew)
  have HC := Lib.hid hC
  obtain ⟨y0, y1, y2, y3⟩ := blk4 SR6.out.bt
  have hne : T0 ≠ X0 + 1 + 1 := by have := SR6.out.tb; have := SR6.out.rb; omega
  clear hC HA
  have Y0 : W6.drew.cell? ⟨T0, 0, none⟩ = _ := y0
  have Y1 : W6.drew.cell? ⟨T0, 1, none⟩ = _ := y1
  have Y2 : W6.drew.cell? ⟨T0, 2, none⟩ = _ := y2
  have Y3 : W6.drew.cell? ⟨T0, 3, none⟩ = _ := y3
  go_region_law (go_simp; go_at_call 12; refine HC.out.mono ?_; rintro e w7 ⟨rfl, k7, o7⟩; have SR7 := Lib.hid (SRd.out.prog ⟨rfl, k7, o7⟩).2; obtain ⟨y70, y71, y72, y73⟩ := blk4 SR7.out.bt; obtain ⟨r70, r71, r72, r73⟩ := zer4 SR7.out.br; obtain ⟨f70, f71, f72, f73⟩ := froz4 SR7.out.br; clear k7 o7)
  all_goals
    go_wp2_with fail
    obtain ⟨z0, z1, z2, z3⟩ := blk4 (putX_blk SR7.out.br most d' a')
    simp only [putX] at z0 z1 z2 z3
    exact bodyPost_ret (v := .tuple #[.pointer (some ⟨x, 0, none⟩), dixV most d' a', .bool true]) (by simp [results, Tryz.results17, go_sem, z0, z1, z2, z3]) rfl (by rw [HDR.out]; exact SR7.out.fin)
set_option maxHeartbeats 8000000 in
set_option maxRecDepth 100000 in
theorem rstep_cut {V w : World} {S P : Nat → Prop} {x : Nat} {most seed R : Int} {n : Nat} {d : Dx} {a : Dp} (k : Kr V w S x most seed R n d) (hn : n ≤ 9000) (hR0 : 0 ≤ R) (hR : R ≤ 100000) (h : Dix w P d a) (hP : ∀ g, P g → S g) (id : Nat) (hid : id ≤ 18446744073709551615) (p : Option Addr) (cp : Nat) (ts : List (List UInt8)) (nn ii : Int) (hTR : ∀ (W3 : World), Only (fun g => ¬ S g ∧ V.heap.size ≤ g) w W3 → Reads W3 (.slice p ts.length cp) (ts.map encStr)) (htl : ts.length ≤ 20) :
    Calls Tryz.prog 17 #[.pointer (some ⟨x, 0, none⟩), dixV most d a, .agg #[.int .i64 3, .int .u64 (id : Int), .slice p ts.length cp, .int .i64 nn, .int .i64 ii]] w (RStep V w S P most seed R (n + 1) (d.cut nn ii).1) := by
  obtain ⟨X0, hX0⟩ : ∃ X0, w.heap.size = X0 := ⟨_, rfl⟩
  obtain ⟨W, hW⟩ : ∃ W, (((w.alloc (.cells (dixCs most d a) 35)).alloc (.cells #[.int .i64 3, .int .u64 (id : Int), .slice p ts.length cp, .int .i64 nn, .int .i64 ii] 38)).alloc (.cells zeroX 35)) = W := ⟨_, rfl⟩
  have SQ := Lib.hid (Sq.start k h hP #[.int .i64 3, .int .u64 (id : Int), .slice p ts.length cp, .int .i64 nn, .int .i64 ii] hX0)
  rw [hW] at SQ
  have HTR := Lib.hid hTR
  have HF := Lib.hid k.facts
  have HPL : Hid (∀ g, P g → g < w.heap.size) := fun g hg => SQ.out.ss g (hP g hg)
  clear k h hTR hP
  go_enter Tryz.func17, Tryz.ntmps17
  go_upto_region 1 with (fail)
  unfold dixCs zeroX at hW
  try simp only [hX0]
  try rw [hW]
  have HX0 := Lib.hid hX0
  clear hW hX0
  obtain ⟨d0, d1, d2, d3⟩ := blk4 SQ.out.bx
  obtain ⟨c0, c1, c2, c3, c4⟩ := act5 SQ.out.ba
  obtain ⟨⟨d', bb, er⟩, hdr⟩ : ∃ r, d.cut nn ii = r := ⟨_, rfl⟩
  have HDR := Lib.hid hdr
  have hA := xcut_any SQ.out.dx (fun g hg => Nat.lt_of_lt_of_le (HPL.out g hg) SQ.out.bel.size) most (by have := HF.out.2.1; omega) (by have := HF.out.2.2.1; omega) nn ii
  rw [hdr] at hA
  unfold dixV dixCs at hA
  have HA := Lib.hid hA
  clear hA hdr
  go_upto_region 21 with (go_at_call 13; refine HA.out.mono ?_; rintro e w5 ⟨a', rfl, hd5, b5⟩)
  have hal : Below w5.heap.size w5 (w5.alloc (.cells #[.int .i64 most, .slice a'.p d'.nm.length a'.c, .slice a'.pA d'.all.length a'.cA, .slice a'.pS d'.sl.length a'.cS] 35)) := (Below.refl _ _).alloc (Nat.le_refl _) _
  have hbt : Below W.heap.size W (w5.alloc (.cells #[.int .i64 most, .slice a'.p d'.nm.length a'.c, .slice a'.pA d'.all.length a'.cA, .slice a'.pS d'.sl.length a'.cS] 35)) := b5.trans (hal.mono b5.size)
  obtain ⟨T0, hT0⟩ : ∃ T0, w5.heap.size = T0 := ⟨_, rfl⟩
  have SR6 : Hid (Sr V w (w5.alloc (.cells #[.int .i64 most, .slice a'.p d'.nm.length a'.c, .slice a'.pA d'.all.length a'.cA, .slice a'.pS d'.sl.length a'.cS] 35)) S P W.heap.size (T0 + 1) x most seed R n d d' a' (X0 + 1 + 1) T0) := SQ.out.hold b5 hd5 hT0
  have HBA6 := Lib.hid (Blk.below SQ.out.ba hbt SQ.out.ba.lt)
  have HLO : Hid (X0 + 1 + 1 < W.heap.size) := SQ.out.br.lt
  try simp only [hT0]
  clear hT0 hal hbt hd5 b5 d0 d1 d2 d3 c0 c1 c2 c3 c4
  generalize (w5.alloc (.cells #[.int .i64 most, .slice a'.p d'.nm.length a'.c, .slice a'.pA d'.all.length a'.cA, .slice a'.pS d'.sl.length a'.cS] 35)) = W6 at *
  obtain ⟨c0, c1, c2, c3, c4⟩ := act5 HBA6.out
  have C3 : W6.drew.cell? ⟨X0 + 1, 3, none⟩ = _ := c3
  have C4 : W6.drew.cell? ⟨X0 + 1, 4, none⟩ = _ := c4
  have HBAd : Hid (Blk W6.drew (X0 + 1) 38 #[.int .i64 3, .int .u64 (id : Int), .slice p ts.length cp, .int .i64 nn, .int .i64 ii]) := HBA6.out
  clear c0 c1 c2
  have SRd : Hid (Sr V w W6.drew S P W.heap.size (T0 + 1) x most seed R n d d' a' (X0 + 1 + 1) T0) := SR6.out.below (Below.refl _ _).drew
  have hC := SRd.out.kr.cuts (by omega) nn ii HDR.out
  have HC := Lib.hid hC
  obtain ⟨y0, y1, y2, y3⟩ := blk4 SR6.out.bt
  have hne : T0 ≠ X0 + 1 + 1 := by have := SR6.out.tb; have := SR6.out.rb; omega
  clear hC HA
  have Y0 : W6.drew.cell? ⟨T0, 0, none⟩ = _ := y0
  have Y1 : W6.drew.cell? ⟨T0, 1, none⟩ = _ := y1
  have Y2 : W6.drew.cell? ⟨T0, 2, none⟩ = _ := y2
  have Y3 : W6.drew.cell? ⟨T0, 3, none⟩ = _ := y3
  go_region_law (go_simp; go_at_call 14; refine HC.out.mono ?_; rintro e w7 ⟨rfl, k7, o7⟩; have HBA7 := Lib.hid (Blk.only HBAd.out o7 (fun hs => hs.1 (.inr ⟨by have := HX0.out; omega, by have := SRd.out.tb; have := SRd.out.lb; have := HLO.out; omega⟩))); obtain ⟨-, -, -, c73, c74⟩ := act5 HBA7.out; have SR7 := Lib.hid (SRd.out.prog ⟨rfl, k7, o7⟩).2; obtain ⟨y70, y71, y72, y73⟩ := blk4 SR7.out.bt; obtain ⟨r70, r71, r72, r73⟩ := zer4 SR7.out.br; obtain ⟨f70, f71, f72, f73⟩ := froz4 SR7.out.br; clear k7 o7)
  all_goals
    go_wp2_with fail
    obtain ⟨z0, z1, z2, z3⟩ := blk4 (putX_blk SR7.out.br most d' a')
    simp only [putX] at z0 z1 z2 z3
    exact bodyPost_ret (v := .tuple #[.pointer (some ⟨x, 0, none⟩), dixV most d' a', .bool true]) (by simp [results, Tryz.results17, go_sem, z0, z1, z2, z3]) rfl (by rw [HDR.out]; exact SR7.out.fin)
set_option maxHeartbeats 8000000 in
set_option maxRecDepth 100000 in
theorem rstep_copy {V w : World} {S P : Nat → Prop} {x : Nat} {most seed R : Int} {n : Nat} {d : Dx} {a : Dp} (k : Kr V w S x most seed R n d) (hn : n ≤ 9000) (hR0 : 0 ≤ R) (hR : R ≤ 100000) (h : Dix w P d a) (hP : ∀ g, P g → S g) (what : Int) (w0 : ¬ what = 0) (w1 : ¬ what = 1) (w2 : ¬ what = 2) (w3 : ¬ what = 3) (id : Nat) (hid : id ≤ 18446744073709551615) (p : Option Addr) (cp : Nat) (ts : List (List UInt8)) (nn ii : Int) (hTR : ∀ (W3 : World), Only (fun g => ¬ S g ∧ V.heap.size ≤ g) w W3 → Reads W3 (.slice p ts.length cp) (ts.map encStr)) (htl : ts.length ≤ 20) :
    Calls Tryz.prog 17 #[.pointer (some ⟨x, 0, none⟩), dixV most d a, .agg #[.int .i64 what, .int .u64 (id : Int), .slice p ts.length cp, .int .i64 nn, .int .i64 ii]] w (RStep V w S P most seed R n d) := by
  obtain ⟨X0, hX0⟩ : ∃ X0, w.heap.size = X0 := ⟨_, rfl⟩
  obtain ⟨W, hW⟩ : ∃ W, (((w.alloc (.cells (dixCs most d a) 35)).alloc (.cells #[.int .i64 what, .int .u64 (id : Int), .slice p ts.length cp, .int .i64 nn, .int .i64 ii] 38)).alloc (.cells zeroX 35)) = W := ⟨_, rfl⟩
  have SQ := Lib.hid (Sq.start k h hP #[.int .i64 what, .int .u64 (id : Int), .slice p ts.length cp, .int .i64 nn, .int .i64 ii] hX0)
  rw [hW] at SQ
  have HTR := Lib.hid hTR
  have HF := Lib.hid k.facts
  have HPL : Hid (∀ g, P g → g < w.heap.size) := fun g hg => SQ.out.ss g (hP g hg)
  clear k h hTR hP
  go_enter Tryz.func17, Tryz.ntmps17
  go_upto_region 1 with (fail)
  unfold dixCs zeroX at hW
  try simp only [hX0]
  try rw [hW]
  have HX0 := Lib.hid hX0
  clear hW hX0
  obtain ⟨d0, d1, d2, d3⟩ := blk4 SQ.out.bx
  obtain ⟨c0, c1, c2, c3, c4⟩ := act5 SQ.out.ba
  go_wp2_with fail
  refine (SQ.out.copy (by omega)).mono ?_
  rintro e w5 ⟨c, rfl, sc5⟩
  have SC5 := Lib.hid sc5
  clear sc5 d0 d1 d2 d3 c0 c1 c2 c3 c4
  go_wp2_with fail
  obtain ⟨B, hB⟩ : ∃ B, W.heap.size = B := ⟨_, rfl⟩
  have SC6 := Lib.hid (SC5.out.below ((Below.refl w5.heap.size w5).alloc (Nat.le_refl _) (.cells #[.string ⟨#[111, 116, 104, 101, 114]⟩] 9)))
  have HRO : Hid (Reads (w5.alloc (.cells #[.string ⟨#[111, 116, 104, 101, 114]⟩] 9)) (.slice (some ⟨w5.heap.size, 0, none⟩) 1 1) (([[111, 116, 104, 101, 114]] : List (List UInt8)).map encStr)) := reads_lit w5 _ _ 1 rfl (by decide)
  refine (SC6.out.add (by omega) hR0 (by omega) 1152921504606846976 1152921504606846976 rfl (by decide) _ _ HRO.out (by decide)).mono ?_
  rintro e w7 ⟨v7, er7, rfl, sc7⟩
  have SC7 := Lib.hid sc7
  clear sc7 SC5 SC6 HRO
  go_wp2_with fail
  refine (SC7.out.drop (by omega) (by omega) 1 1 rfl (by decide)).mono ?_
  rintro e w8 ⟨v8, er8, rfl, sc8⟩
  have SC8 := Lib.hid sc8
  clear sc8 SC7
  go_wp2_with fail
  refine (SC8.out.cut (by omega) 0 0).mono ?_
  rintro e w9 ⟨b9, er9, rfl, sc9⟩
  have SC9 := Lib.hid sc9
  obtain ⟨d0, d1, d2, d3⟩ := blk4 sc9.bx
  obtain ⟨f0, f1, f2, f3⟩ := froz4 sc9.br
  obtain ⟨r0, r1, r2, r3⟩ := zer4 sc9.br
  clear sc9 SC8
  go_upto_region 26 with (fail)
  have SCd : Hid (Sc V w w9.drew S P c x most seed R n _ _ d a X0 W.heap.size) := SC9.out.below (Below.refl _ _).drew
  go_region
  all_goals
    go_wp2_with fail
    obtain ⟨z0, z1, z2, z3⟩ := blk4 (putX_blk SC9.out.br most d a)
    simp only [putX] at z0 z1 z2 z3
    exact bodyPost_ret (v := .tuple #[.pointer (some ⟨c, 0, none⟩), dixV most d a, .bool true]) (by simp [results, Tryz.results17, go_sem, z0, z1, z2, z3]) rfl (SC9.out.fin.drew)
set_option maxHeartbeats 8000000 in
set_option maxRecDepth 100000 in
theorem rstep_add0 {V w : World} {S P : Nat → Prop} {x : Nat} {most seed R : Int} {n : Nat} {d : Dx} {a : Dp} (k : Kr V w S x most seed R n d) (hn : n ≤ 9000) (hR0 : 0 ≤ R) (hR : R ≤ 100000) (h : Dix w P d a) (hP : ∀ g, P g → S g) (id : Nat) (hid : id ≤ 18446744073709551615) (p : Option Addr) (cp : Nat) (ts : List (List UInt8)) (nn ii : Int) (hTR : ∀ (W3 : World), Only (fun g => ¬ S g ∧ V.heap.size ≤ g) w W3 → Reads W3 (.slice p ts.length cp) (ts.map encStr)) (htl : ts.length ≤ 20) :
    Calls Tryz.prog 17 #[.pointer (some ⟨x, 0, none⟩), dixV most d a, .agg #[.int .i64 0, .int .u64 (id : Int), .slice p ts.length cp, .int .i64 nn, .int .i64 ii]] w (fun e w' => ∃ z, z ≤ 18446744073709551615 ∧ RStep V w S P most seed (R + 16) (n + 16) (d.add most z ts).1 e w') := by
  obtain ⟨X0, hX0⟩ : ∃ X0, w.heap.size = X0 := ⟨_, rfl⟩
  obtain ⟨W, hW⟩ : ∃ W, (((w.alloc (.cells (dixCs most d a) 35)).alloc (.cells #[.int .i64 0, .int .u64 (id : Int), .slice p ts.length cp, .int .i64 nn, .int .i64 ii] 38)).alloc (.cells zeroX 35)) = W := ⟨_, rfl⟩
  have SQ := Lib.hid (Sq.start k h hP #[.int .i64 0, .int .u64 (id : Int), .slice p ts.length cp, .int .i64 nn, .int .i64 ii] hX0)
  rw [hW] at SQ
  have HTR := Lib.hid hTR
  have HF := Lib.hid k.facts
  have HPL : Hid (∀ g, P g → g < w.heap.size) := fun g hg => SQ.out.ss g (hP g hg)
  clear k h hTR hP
  go_enter Tryz.func17, Tryz.ntmps17
  go_upto_region 1 with (fail)
  unfold dixCs zeroX at hW
  try simp only [hX0]
  try rw [hW]
  have HX0 := Lib.hid hX0
  clear hW hX0
  obtain ⟨d0, d1, d2, d3⟩ := blk4 SQ.out.bx
  obtain ⟨c0, c1, c2, c3, c4⟩ := act5 SQ.out.ba
  obtain ⟨z, hzi, hz⟩ : ∃ z : Nat, z = id ∧ z ≤ 18446744073709551615 := ⟨id, rfl, hid⟩
  subst hzi
  obtain ⟨istr, histr, hs0, hs1, hs2⟩ := info_parts info_str
  have HTW := Lib.hid (HTR.out W (Only.of_below SQ.out.bel _))
  go_wp2_with (at_builtin; refine wpList_append_reads _ rfl _ _ 36 rfl W.heap.size 9 istr (.string ⟨#[]⟩) 16 Tryz.underlying36 histr hs0 hs1 hs2 rfl _ _ _ rfl (World.ownsRow_nil _ _ _ _) _ (ts.map encStr) rfl HTW.out (one_strings _) (by rw [List.length_map]; unfold maxLen; omega) (by rw [List.length_map]; omega) (Nat.le_refl _) ?_)
  intro v3 w3 o3 g3 _
  have o3' : w3.ownsRow W.heap.size 9 1 v3 ts.length (ts.map encStr) := by simpa using o3
  have g3' : W.grownBy w3 none := g3
  have b3 : Below W.heap.size W w3 := (Below.refl _ _).grown g3' (Nat.le_refl _) (fun j hj => by cases hj)
  obtain ⟨p3, k3, rfl⟩ := owns_form o3'
  have SQ3 := Lib.hid (SQ.out.grow b3)
  have O3 := Lib.hid o3'
  have HW3 : Hid (W.heap.size ≤ w3.heap.size) := b3.size
  have HRW0 : Hid (X0 + 1 + 1 < W.heap.size) := SQ.out.br.lt
  have HSW : Hid (w.heap.size ≤ W.heap.size) := SQ.out.bel.size
  have HOL : Hid (∀ g, (Value.slice p3 ts.length k3).ownBlock = some g → W.heap.size ≤ g ∧ g < w3.heap.size) := fun g hg => own_lt o3' hg
  clear o3 o3' g3 g3' b3 d0 d1 d2 d3 c0 c1 c2 c3 c4 HTW SQ
  obtain ⟨d0, d1, d2, d3⟩ := blk4 SQ3.out.bx
  obtain ⟨c0, c1, c2, c3, c4⟩ := act5 SQ3.out.ba
  obtain ⟨⟨d', ns, er⟩, hdr⟩ : ∃ r, d.add most z ts = r := ⟨_, rfl⟩
  have HDR := Lib.hid hdr
  have hnl : ns.length ≤ 16 := by have := add_len most d z ts HF.out.1 (by omega); rw [hdr] at this; exact this
  have hA := xadd_all SQ3.out.dx (fun g hg => Nat.lt_of_lt_of_le (HPL.out g hg) SQ3.out.bel.size) HF.out.1 HF.out.2.2.2.2.1 hR0 (by omega) (by have := HF.out.2.2.1; omega) (by have := HF.out.2.1; omega) z hz _ ts (HTR.out w3 (Only.of_below SQ3.out.bel _)) (by omega)
  rw [hdr] at hA
  unfold dixV dixCs at hA
  have HA := Lib.hid hA
  clear hA hdr
  go_upto_region 10 with (go_at_call 9; refine HA.out.mono ?_; rintro e w5 ⟨a', q5, c5, rfl, hr5, hd5, b5⟩)
  have hal : Below w5.heap.size w5 (w5.alloc (.cells #[.int .i64 most, .slice a'.p d'.nm.length a'.c, .slice a'.pA d'.all.length a'.cA, .slice a'.pS d'.sl.length a'.cS] 35)) := (Below.refl _ _).alloc (Nat.le_refl _) _
  have hbt : Below w3.heap.size w3 (w5.alloc (.cells #[.int .i64 most, .slice a'.p d'.nm.length a'.c, .slice a'.pA d'.all.length a'.cA, .slice a'.pS d'.sl.length a'.cS] 35)) := b5.trans (hal.mono b5.size)
  obtain ⟨T0, hT0⟩ : ∃ T0, w5.heap.size = T0 := ⟨_, rfl⟩
  have SR6 : Hid (Sr V w (w5.alloc (.cells #[.int .i64 most, .slice a'.p d'.nm.length a'.c, .slice a'.pA d'.all.length a'.cA, .slice a'.pS d'.sl.length a'.cS] 35)) S P w3.heap.size (T0 + 1) x most seed R n d d' a' (X0 + 1 + 1) T0) := SQ3.out.hold b5 hd5 hT0
  have HBA6 := Lib.hid (Blk.below SQ3.out.ba hbt SQ3.out.ba.lt)
  have HRW : Hid (RowS (w5.alloc (.cells #[.int .i64 most, .slice a'.p d'.nm.length a'.c, .slice a'.pA d'.all.length a'.cA, .slice a'.pS d'.sl.length a'.cS] 35)) (fun g => S g ∨ (w.heap.size ≤ g ∧ g < T0 + 1)) q5 ns.length c5 (numsV ns)) := (hr5.below hal).more (fun g hg => by
    rcases hg with hg | hg
    · exact .inl (SQ3.out.sp g hg)
    · exact .inr ⟨Nat.le_trans SQ3.out.bel.size hg.1, by omega⟩)
  clear hr5
  have HOB : Hid (∀ g, (Value.slice p3 ts.length k3).ownBlock = some g → g < T0 + 1) := fun g hg => by have h1 := own_lt O3.out hg; have h2 := b5.size; omega
  have OX := Lib.hid (ownsRow_below O3.out hbt)
  have HLO : Hid (X0 + 1 + 1 < w3.heap.size) := SQ3.out.br.lt
  try simp only [hT0]
  clear hT0 hal hbt hd5 b5 d0 d1 d2 d3 c0 c1 c2 c3 c4
  generalize (w5.alloc (.cells #[.int .i64 most, .slice a'.p d'.nm.length a'.c, .slice a'.pA d'.all.length a'.cA, .slice a'.pS d'.sl.length a'.cS] 35)) = W6 at *
  have HO6 : Hid (W6.ownsRow W.heap.size 9 1 (.slice p3 ts.length k3) ts.length (ts.map encStr)) := OX.out
  have HRO6 : Hid (Reads W6 (.slice p3 ts.length k3) (ts.map encStr)) := by
    have h1 : W6.ownsRow W.heap.size 9 1 (.slice p3 ts.length k3) (ts.map encStr).length (ts.map encStr) := by rw [List.length_map]; exact HO6.out
    exact Reads.own_ h1 rfl (by rw [List.length_map]; omega)
  have hC := SR6.out.kr.addsR (by omega) hR0 (by omega) z hz _ ts HRO6.out (by omega) HDR.out (by omega) q5 c5 HRW.out
  have HC := Lib.hid hC
  obtain ⟨c0, c1, c2, c3, c4⟩ := act5 HBA6.out
  clear hC HA OX O3 SQ3 c0 c1 c3 c4
  go_upto_region 11 with (first
    | (go_at_call 10; refine HC.out.mono ?_; rintro e w7 ⟨rfl, k7, o7⟩; have HBA7 := Lib.hid (Blk.only HBA6.out o7 (fun hs => hs.1 (.inr ⟨by have := HX0.out; omega, by have := SR6.out.tb; have := SR6.out.lb; have := HLO.out; omega⟩))); obtain ⟨-, -, c72, -, -⟩ := act5 HBA7.out; have HO7 : Hid (w7.ownsRow W.heap.size 9 1 (.slice p3 ts.length k3) ts.length (ts.map encStr)) := ownsRow_only HO6.out o7 (fun g hg hs => hs.1 (.inr (by have h5 := own_lt HO6.out hg; exact ⟨by have := HSW.out; omega, by have := HOB.out g hg; omega⟩))); have SR7 := Lib.hid (SR6.out.prog ⟨rfl, k7, o7⟩).2; clear k7 o7)
    | (go_at_call 24; refine (strings_any _ _ ts w7 (own_reads HO7.out (by omega)) (HTR.out w7 SR7.out.only)).mono ?_; rintro e w8 ⟨rfl, b8⟩))
  have SR8 := Lib.hid (SR7.out.below b8)
  have HO8 : Hid (w8.ownsRow W.heap.size 9 1 (.slice p3 ts.length k3) ts.length (ts.map encStr)) := ownsRow_below HO7.out b8
  clear b8 HBA7 HO7 SR7 c72 c2
  obtain ⟨N, hN⟩ : ∃ N, ts.length = N := ⟨_, rfl⟩
  have HN := Lib.hid hN
  have hN20 : N ≤ 20 := by omega
  rw [hN] at HO8 HOL
  rw [hN]
  clear hN
  go_wp2_with fail
  go_loopg [16] N (fun r s16 wr => ∃ (k : Nat) (xs : List Value), r + k = N ∧ s16 = .int .i64 (k : Int) ∧ wr.ownsRow W.heap.size 9 1 (.slice p3 N k3) N xs ∧ Sr V w wr S P w3.heap.size (T0 + 1) x most seed (R + 16) (n + 16) d' d' a' (X0 + 1 + 1) T0)
  case atStart => exact ⟨0, _, by omega, rfl, HO8.out, SR8.out⟩
  case round =>
    clear HO8 SR8
    obtain ⟨k, xs, hkr, rfl, hown, hsr⟩ := hrel
    have HK := Lib.hid hkr
    have SRr := Lib.hid hsr
    have hkN : k ≤ N := by omega
    clear hkr hsr
    by_cases hlt : k < N
    · obtain ⟨g, cap, he, hbg, hgs⟩ := hown.form (by omega)
      injection he with e1 e2 e3
      subst e1 e3
      have hlen : xs.length = N := by rw [hown.1, Nat.mul_one]
      obtain ⟨u, hcell⟩ : ∃ u, wr.cell? ⟨g, k, none⟩ = some u := by
        rw [hown.cellAt k (by omega)]
        exact ⟨_, List.getElem?_eq_getElem (by omega)⟩
      have hfz := hown.frozenAt k
      obtain ⟨hown', -⟩ := hown.stored k (.string ⟨#[115, 112, 111, 105, 108, 116]⟩)
      have HOW := Lib.hid hown'
      have SRn := Lib.hid (SRr.out.own (b := g) ⟨by have := (HOL.out g rfl).1; have := HSW.out; omega, (HOL.out g rfl).2, by have := (HOL.out g rfl).1; have := HRW0.out; omega⟩ ((Only.refl (fun g' => g' = g) wr).setCell1 (.inl rfl) k (.string ⟨#[115, 112, 111, 105, 108, 116]⟩)))
      clear hlen hown hown' e2
      go_wp2_with fail
      go_roundg (N - (k + 1))
      case measure => have := HK.out; omega
      case rel => exact ⟨k + 1, _, by have := HK.out; omega, by go_num, HOW.out, SRn.out⟩
    · obtain rfl : N = k := by omega
      obtain ⟨y0, y1, y2, y3⟩ := blk4 SRr.out.bt
      obtain ⟨f0, f1, f2, f3⟩ := froz4 SRr.out.br
      obtain ⟨r0, r1, r2, r3⟩ := zer4 SRr.out.br
      have hne : T0 ≠ X0 + 1 + 1 := by have := SRr.out.tb; have := SRr.out.rb; omega
      clear hown HK
      go_upto_region 15 with (fail)
      go_region
      all_goals
        go_wp2_with fail
        obtain ⟨z0, z1, z2, z3⟩ := blk4 (putX_blk SRr.out.br most d' a')
        simp only [putX] at z0 z1 z2 z3
        exact bodyPost_ret (v := .tuple #[.pointer (some ⟨x, 0, none⟩), dixV most d' a', .bool true]) (by simp [results, Tryz.results17, go_sem, z0, z1, z2, z3]) rfl ⟨z, hz, by rw [HDR.out]; exact SRr.out.fin.drew⟩
set_option maxHeartbeats 8000000 in
set_option maxRecDepth 100000 in
theorem rstep_add1 {V w : World} {S P : Nat → Prop} {x : Nat} {most seed R : Int} {n : Nat} {d : Dx} {a : Dp} (k : Kr V w S x most seed R n d) (hn : n ≤ 9000) (hR0 : 0 ≤ R) (hR : R ≤ 100000) (h : Dix w P d a) (hP : ∀ g, P g → S g) (id : Nat) (hid : id ≤ 18446744073709551615) (p : Option Addr) (cp : Nat) (ts : List (List UInt8)) (nn ii : Int) (hTR : ∀ (W3 : World), Only (fun g => ¬ S g ∧ V.heap.size ≤ g) w W3 → Reads W3 (.slice p ts.length cp) (ts.map encStr)) (htl : ts.length ≤ 20) :
    Calls Tryz.prog 17 #[.pointer (some ⟨x, 0, none⟩), dixV most d a, .agg #[.int .i64 1, .int .u64 (id : Int), .slice p ts.length cp, .int .i64 nn, .int .i64 ii]] w (fun e w' => ∃ z, z ≤ 18446744073709551615 ∧ RStep V w S P most seed (R + 16) (n + 16) (d.add most z ts).1 e w') := by
  obtain ⟨X0, hX0⟩ : ∃ X0, w.heap.size = X0 := ⟨_, rfl⟩
  obtain ⟨W, hW⟩ : ∃ W, (((w.alloc (.cells (dixCs most d a) 35)).alloc (.cells #[.int .i64 1, .int .u64 (id : Int), .slice p ts.length cp, .int .i64 nn, .int .i64 ii] 38)).alloc (.cells zeroX 35)) = W := ⟨_, rfl⟩
  have SQ := Lib.hid (Sq.start k h hP #[.int .i64 1, .int .u64 (id : Int), .slice p ts.length cp, .int .i64 nn, .int .i64 ii] hX0)
  rw [hW] at SQ
  have HTR := Lib.hid hTR
  have HF := Lib.hid k.facts
  have HPL : Hid (∀ g, P g → g < w.heap.size) := fun g hg => SQ.out.ss g (hP g hg)
  clear k h hTR hP
  go_enter Tryz.func17, Tryz.ntmps17
  go_upto_region 1 with (fail)
  unfold dixCs zeroX at hW
  try simp only [hX0]
  try rw [hW]
  have HX0 := Lib.hid hX0
  clear hW hX0
  obtain ⟨d0, d1, d2, d3⟩ := blk4 SQ.out.bx
  obtain ⟨c0, c1, c2, c3, c4⟩ := act5 SQ.out.ba
  obtain ⟨M, hM⟩ : ∃ M, d.all.length = M := ⟨_, rfl⟩
  have HMM := Lib.hid hM
  rw [hM] at d2
  go_upto_if 40 with (fail)
  go_cut [9] (fun s9 wx => ∃ z : Nat, s9 = .int .u64 (z : Int) ∧ z ≤ 18446744073709551615 ∧ W = wx)
  case first =>
    rcases Nat.eq_zero_or_pos M with hM0 | hM0
    · subst hM0
      clear hM
      go_wp2_with fail
      go_meet
      exact ⟨id, rfl, hid, rfl⟩
    · obtain ⟨m, rfl⟩ : ∃ m, M = m + 1 := ⟨M - 1, by omega⟩
      obtain ⟨en, hen⟩ : ∃ en, d.all[m]? = some en := ⟨_, List.getElem?_eq_getElem (by rw [hM]; omega)⟩
      obtain ⟨c, hc⟩ := SQ.out.dx.ec hen
      obtain ⟨gA, hp, hg, -, -, hcell⟩ := SQ.out.dx.all.at_ (by rw [hM]; omega)
      have n0 := hcell (m * 4 + 0) _ ((ens_get hen hc 0 (by decide)).trans rfl)
      rw [hp] at d2
      simp only [Nat.add_zero] at n0
      have hm1 : ((m + 1 : Nat) : Int) - 1 = (m : Int) := by omega
      have hm2 : (0 : Int) < ((m + 1 : Nat) : Int) := by omega
      have hm3 : (0 : Int) < (m : Int) + 1 := by omega
      have hml : (m : Int) ≤ 100000 := by have := HF.out.2.2.1; rw [hM] at this; omega
      obtain ⟨ei, hei⟩ : ∃ ei, en.id = ei := ⟨_, rfl⟩
      rw [hei] at n0
      obtain ⟨z, hz1, hz2⟩ : ∃ k : Nat, IntKind.u64.wrap ((ei : Int) + (id : Int)) = (k : Int) ∧ k ≤ 18446744073709551615 := by
        refine ⟨(IntKind.u64.wrap ((ei : Int) + (id : Int))).toNat, ?_, ?_⟩ <;> (rw [IntKind.wrap_u64]; omega)
      clear hcell hc hen hp hg hei hM
      go_wp2_with fail
      go_meet
      exact ⟨z, rfl, hz2, rfl⟩
  case rest =>
    clear hM
    rw [← HMM.out] at d2
    obtain ⟨z, rfl, hz, rfl⟩ := hcut
    obtain ⟨istr, histr, hs0, hs1, hs2⟩ := info_parts info_str
    have HTW := Lib.hid (HTR.out W (Only.of_below SQ.out.bel _))
    go_wp2_with (at_builtin; refine wpList_append_reads _ rfl _ _ 36 rfl W.heap.size 9 istr (.string ⟨#[]⟩) 16 Tryz.underlying36 histr hs0 hs1 hs2 rfl _ _ _ rfl (World.ownsRow_nil _ _ _ _) _ (ts.map encStr) rfl HTW.out (one_strings _) (by rw [List.length_map]; unfold maxLen; omega) (by rw [List.length_map]; omega) (Nat.le_refl _) ?_)
    intro v3 w3 o3 g3 _
    have o3' : w3.ownsRow W.heap.size 9 1 v3 ts.length (ts.map encStr) := by simpa using o3
    have g3' : W.grownBy w3 none := g3
    have b3 : Below W.heap.size W w3 := (Below.refl _ _).grown g3' (Nat.le_refl _) (fun j hj => by cases hj)
    obtain ⟨p3, k3, rfl⟩ := owns_form o3'
    have SQ3 := Lib.hid (SQ.out.grow b3)
    have O3 := Lib.hid o3'
    have HW3 : Hid (W.heap.size ≤ w3.heap.size) := b3.size
    have HRW0 : Hid (X0 + 1 + 1 < W.heap.size) := SQ.out.br.lt
    have HSW : Hid (w.heap.size ≤ W.heap.size) := SQ.out.bel.size
    have HOL : Hid (∀ g, (Value.slice p3 ts.length k3).ownBlock = some g → W.heap.size ≤ g ∧ g < w3.heap.size) := fun g hg => own_lt o3' hg
    clear o3 o3' g3 g3' b3 d0 d1 d2 d3 c0 c1 c2 c3 c4 HTW SQ
    obtain ⟨d0, d1, d2, d3⟩ := blk4 SQ3.out.bx
    obtain ⟨c0, c1, c2, c3, c4⟩ := act5 SQ3.out.ba
    obtain ⟨⟨d', ns, er⟩, hdr⟩ : ∃ r, d.add most z ts = r := ⟨_, rfl⟩
    have HDR := Lib.hid hdr
    have hnl : ns.length ≤ 16 := by have := add_len most d z ts HF.out.1 (by omega); rw [hdr] at this; exact this
    have hA := xadd_all SQ3.out.dx (fun g hg => Nat.lt_of_lt_of_le (HPL.out g hg) SQ3.out.bel.size) HF.out.1 HF.out.2.2.2.2.1 hR0 (by omega) (by have := HF.out.2.2.1; omega) (by have := HF.out.2.1; omega) z hz _ ts (HTR.out w3 (Only.of_below SQ3.out.bel _)) (by omega)
    rw [hdr] at hA
    unfold dixV dixCs at hA
    have HA := Lib.hid hA
    clear hA hdr
    go_upto_region 10 with (go_at_call 9; refine HA.out.mono ?_; rintro e w5 ⟨a', q5, c5, rfl, hr5, hd5, b5⟩)
    have hal : Below w5.heap.size w5 (w5.alloc (.cells #[.int .i64 most, .slice a'.p d'.nm.length a'.c, .slice a'.pA d'.all.length a'.cA, .slice a'.pS d'.sl.length a'.cS] 35)) := (Below.refl _ _).alloc (Nat.le_refl _) _
    have hbt : Below w3.heap.size w3 (w5.alloc (.cells #[.int .i64 most, .slice a'.p d'.nm.length a'.c, .slice a'.pA d'.all.length a'.cA, .slice a'.pS d'.sl.length a'.cS] 35)) := b5.trans (hal.mono b5.size)
    obtain ⟨T0, hT0⟩ : ∃ T0, w5.heap.size = T0 := ⟨_, rfl⟩
    have SR6 : Hid (Sr V w (w5.alloc (.cells #[.int .i64 most, .slice a'.p d'.nm.length a'.c, .slice a'.pA d'.all.length a'.cA, .slice a'.pS d'.sl.length a'.cS] 35)) S P w3.heap.size (T0 + 1) x most seed R n d d' a' (X0 + 1 + 1) T0) := SQ3.out.hold b5 hd5 hT0
    have HBA6 := Lib.hid (Blk.below SQ3.out.ba hbt SQ3.out.ba.lt)
    have HRW : Hid (RowS (w5.alloc (.cells #[.int .i64 most, .slice a'.p d'.nm.length a'.c, .slice a'.pA d'.all.length a'.cA, .slice a'.pS d'.sl.length a'.cS] 35)) (fun g => S g ∨ (w.heap.size ≤ g ∧ g < T0 + 1)) q5 ns.length c5 (numsV ns)) := (hr5.below hal).more (fun g hg => by
      rcases hg with hg | hg
      · exact .inl (SQ3.out.sp g hg)
      · exact .inr ⟨Nat.le_trans SQ3.out.bel.size hg.1, by omega⟩)
    clear hr5
    have HOB : Hid (∀ g, (Value.slice p3 ts.length k3).ownBlock = some g → g < T0 + 1) := fun g hg => by have h1 := own_lt O3.out hg; have h2 := b5.size; omega
    have OX := Lib.hid (ownsRow_below O3.out hbt)
    have HLO : Hid (X0 + 1 + 1 < w3.heap.size) := SQ3.out.br.lt
    try simp only [hT0]
    clear hT0 hal hbt hd5 b5 d0 d1 d2 d3 c0 c1 c2 c3 c4
    generalize (w5.alloc (.cells #[.int .i64 most, .slice a'.p d'.nm.length a'.c, .slice a'.pA d'.all.length a'.cA, .slice a'.pS d'.sl.length a'.cS] 35)) = W6 at *
    have HO6 : Hid (W6.ownsRow W.heap.size 9 1 (.slice p3 ts.length k3) ts.length (ts.map encStr)) := OX.out
    have HRO6 : Hid (Reads W6 (.slice p3 ts.length k3) (ts.map encStr)) := by
      have h1 : W6.ownsRow W.heap.size 9 1 (.slice p3 ts.length k3) (ts.map encStr).length (ts.map encStr) := by rw [List.length_map]; exact HO6.out
      exact Reads.own_ h1 rfl (by rw [List.length_map]; omega)
    have hC := SR6.out.kr.addsR (by omega) hR0 (by omega) z hz _ ts HRO6.out (by omega) HDR.out (by omega) q5 c5 HRW.out
    have HC := Lib.hid hC
    obtain ⟨c0, c1, c2, c3, c4⟩ := act5 HBA6.out
    clear hC HA OX O3 SQ3 c0 c1 c3 c4
    go_upto_region 11 with (first
      | (go_at_call 10; refine HC.out.mono ?_; rintro e w7 ⟨rfl, k7, o7⟩; have HBA7 := Lib.hid (Blk.only HBA6.out o7 (fun hs => hs.1 (.inr ⟨by have := HX0.out; omega, by have := SR6.out.tb; have := SR6.out.lb; have := HLO.out; omega⟩))); obtain ⟨-, -, c72, -, -⟩ := act5 HBA7.out; have HO7 : Hid (w7.ownsRow W.heap.size 9 1 (.slice p3 ts.length k3) ts.length (ts.map encStr)) := ownsRow_only HO6.out o7 (fun g hg hs => hs.1 (.inr (by have h5 := own_lt HO6.out hg; exact ⟨by have := HSW.out; omega, by have := HOB.out g hg; omega⟩))); have SR7 := Lib.hid (SR6.out.prog ⟨rfl, k7, o7⟩).2; clear k7 o7)
      | (go_at_call 24; refine (strings_any _ _ ts w7 (own_reads HO7.out (by omega)) (HTR.out w7 SR7.out.only)).mono ?_; rintro e w8 ⟨rfl, b8⟩))
    have SR8 := Lib.hid (SR7.out.below b8)
    have HO8 : Hid (w8.ownsRow W.heap.size 9 1 (.slice p3 ts.length k3) ts.length (ts.map encStr)) := ownsRow_below HO7.out b8
    clear b8 HBA7 HO7 SR7 c72 c2
    obtain ⟨N, hN⟩ : ∃ N, ts.length = N := ⟨_, rfl⟩
    have HN := Lib.hid hN
    have hN20 : N ≤ 20 := by omega
    rw [hN] at HO8 HOL
    rw [hN]
    clear hN
    go_wp2_with fail
    go_loopg [16] N (fun r s16 wr => ∃ (k : Nat) (xs : List Value), r + k = N ∧ s16 = .int .i64 (k : Int) ∧ wr.ownsRow W.heap.size 9 1 (.slice p3 N k3) N xs ∧ Sr V w wr S P w3.heap.size (T0 + 1) x most seed (R + 16) (n + 16) d' d' a' (X0 + 1 + 1) T0)
    case atStart => exact ⟨0, _, by omega, rfl, HO8.out, SR8.out⟩
    case round =>
      clear HO8 SR8
      obtain ⟨k, xs, hkr, rfl, hown, hsr⟩ := hrel
      have HK := Lib.hid hkr
      have SRr := Lib.hid hsr
      have hkN : k ≤ N := by omega
      clear hkr hsr
      by_cases hlt : k < N
      · obtain ⟨g, cap, he, hbg, hgs⟩ := hown.form (by omega)
        injection he with e1 e2 e3
        subst e1 e3
        have hlen : xs.length = N := by rw [hown.1, Nat.mul_one]
        obtain ⟨u, hcell⟩ : ∃ u, wr.cell? ⟨g, k, none⟩ = some u := by
          rw [hown.cellAt k (by omega)]
          exact ⟨_, List.getElem?_eq_getElem (by omega)⟩
        have hfz := hown.frozenAt k
        obtain ⟨hown', -⟩ := hown.stored k (.string ⟨#[115, 112, 111, 105, 108, 116]⟩)
        have HOW := Lib.hid hown'
        have SRn := Lib.hid (SRr.out.own (b := g) ⟨by have := (HOL.out g rfl).1; have := HSW.out; omega, (HOL.out g rfl).2, by have := (HOL.out g rfl).1; have := HRW0.out; omega⟩ ((Only.refl (fun g' => g' = g) wr).setCell1 (.inl rfl) k (.string ⟨#[115, 112, 111, 105, 108, 116]⟩)))
        clear hlen hown hown' e2
        go_wp2_with fail
        go_roundg (N - (k + 1))
        case measure => have := HK.out; omega
        case rel => exact ⟨k + 1, _, by have := HK.out; omega, by go_num, HOW.out, SRn.out⟩
      · obtain rfl : N = k := by omega
        obtain ⟨y0, y1, y2, y3⟩ := blk4 SRr.out.bt
        obtain ⟨f0, f1, f2, f3⟩ := froz4 SRr.out.br
        obtain ⟨r0, r1, r2, r3⟩ := zer4 SRr.out.br
        have hne : T0 ≠ X0 + 1 + 1 := by have := SRr.out.tb; have := SRr.out.rb; omega
        clear hown HK
        go_upto_region 15 with (fail)
        go_region
        all_goals
          go_wp2_with fail
          obtain ⟨z0, z1, z2, z3⟩ := blk4 (putX_blk SRr.out.br most d' a')
          simp only [putX] at z0 z1 z2 z3
          exact bodyPost_ret (v := .tuple #[.pointer (some ⟨x, 0, none⟩), dixV most d' a', .bool true]) (by simp [results, Tryz.results17, go_sem, z0, z1, z2, z3]) rfl ⟨z, hz, by rw [HDR.out]; exact SRr.out.fin.drew⟩
end Go.Proofs.YtfpkeinknhijaaaGreat
