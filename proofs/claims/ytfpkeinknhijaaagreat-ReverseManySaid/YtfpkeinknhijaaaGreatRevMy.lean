/- ReverseMany. (printed by mkmany.py) -/
import Derived.Test.YtfpkeinknhijaaaGreatRevM
import Derived.Test.YtfpkeinknhijaaaGreatRevMP
namespace Go.Proofs.YtfpkeinknhijaaaGreat
set_option linter.unusedVariables false
open Go.RowKit Go.Maps Go.Sort

theorem reads_mt {w : World} {B1 : Nat} (h : Blk w B1 9 #[.string ⟨#[97]⟩, .string ⟨#[98]⟩, .string ⟨#[99]⟩, .string ⟨#[100]⟩, .string ⟨#[101]⟩]) {T : Nat} (hT : T ≤ 5) : Reads w (.slice (some ⟨B1, 0, none⟩) T 5) ((mt T).map encStr) := by
  have hl := mt_len hT
  have h2 : (mt T).map encStr = (mL.map encStr).take T := by unfold mt; rw [List.map_take]
  refine ⟨_, 5, by rw [List.length_map, hl], by rw [List.length_map, hl]; omega, .inr ⟨B1, 0, rfl, h.lt, by rw [List.length_map, hl]; exact hT, fun i x hx => ?_⟩⟩
  rw [Nat.zero_add]
  rw [h2, List.getElem?_take] at hx
  split at hx
  · have hx2 : (mL.map encStr).toArray[i]? = some x := by rw [List.getElem?_toArray]; exact hx
    exact (Blk.cell h i).trans hx2
  · cases hx
theorem reads_ae {w : World} {B2 : Nat} (h : Blk w B2 9 #[.string ⟨#[97]⟩, .string ⟨#[101]⟩]) : Reads w (.slice (some ⟨B2, 0, none⟩) 2 2) (([[97], [101]] : List (List UInt8)).map encStr) := by
  refine ⟨_, 2, rfl, by decide, .inr ⟨B2, 0, rfl, h.lt, by decide, fun i x hx => ?_⟩⟩
  rw [Nat.zero_add]
  have hx2 : (([[97], [101]] : List (List UInt8)).map encStr).toArray[i]? = some x := by rw [List.getElem?_toArray]; exact hx
  exact (Blk.cell h i).trans hx2
theorem blk5 {w : World} {A0 : Nat} {t : TypeId} {v0 v1 v2 v3 v4 : Value} (h : Blk w A0 t #[v0, v1, v2, v3, v4]) : w.cell? ⟨A0, 0, none⟩ = some v0 ∧ w.cell? ⟨A0, 1, none⟩ = some v1 ∧ w.cell? ⟨A0, 2, none⟩ = some v2 ∧ w.cell? ⟨A0, 3, none⟩ = some v3 ∧ w.cell? ⟨A0, 4, none⟩ = some v4 :=
  ⟨(Blk.cell h 0).trans rfl, (Blk.cell h 1).trans rfl, (Blk.cell h 2).trans rfl, (Blk.cell h 3).trans rfl, (Blk.cell h 4).trans rfl⟩
section
variable {V w w' : World} {P : Nat → Prop} {M0 x : Nat} {most seed R : Int} {n : Nat} {d : Dx} {a : Dp}
/-- The law's first state. -/
theorem Mm.start (k : Kr V w (fun _ => False) x most seed R n ⟨[], [], []⟩) (m : Nat) (hM : w.heap.size = m) : Mm V (w.alloc (.cells #[.int .i64 most, .slice none 0 0, .slice none 0 0, .slice none 0 0] 35)) (fun _ => False) m x most seed R n ⟨[], [], []⟩ ⟨none, 0, none, 0, none, 0, []⟩ := by
  subst hM
  have hb := Blk.new w 35 #[.int .i64 most, .slice none 0 0, .slice none 0 0, .slice none 0 0]
  refine ⟨k.keep ((Below.refl _ _).alloc (Nat.le_refl _) _) (fun g hg => ?_), Dix.nil _ _, hb, fun g h => h.elim, k.bel.size⟩
  rcases hg with hg | hg
  · exact hg.elim
  · rw [hg]; exact .inr ⟨Nat.le_refl _, hb.lt⟩
theorem Mm.sizes (h : Mm V w P M0 x most seed R n d a) {s wr : Nat} (hs : d.sl.length = s) (hw : wrongX d.all d.sl = wr) : Calls Tryz.prog 15 #[.pointer (some ⟨x, 0, none⟩)] w fun e w' => e = .returned (.tuple #[.int .i64 (s : Int), .int .i64 (wr : Int)]) ∧ Mm V w' P M0 x most seed R n d a ∧ Below w.heap.size w w' := by
  subst hs hw
  obtain ⟨tb, lb, sb, own, Rd, lm, sm, l0, hry⟩ := h.kr.ryx
  refine (rvsizes_any hry).mono ?_
  rintro e w' ⟨rfl, hb⟩
  exact ⟨rfl, h.below hb, hb⟩
end
set_option maxHeartbeats 16000000 in
set_option maxRecDepth 100000 in
theorem rmany_good (m T ev : Nat) (hm : m ≤ 150) (hT1 : 1 ≤ T) (hT5 : T ≤ 5) (he1 : 1 ≤ ev) (he9 : ev ≤ 9) (w : World) :
    Calls Tryz.prog 4 #[.int .i64 (m : Int), .int .u8 (T : Int), .int .u8 (ev : Int)] w fun e w' => e = .returned (.bool true) ∧ Below w.heap.size w w' := by
  go_enter Tryz.func4, Tryz.ntmps4
  go_wp2_with fail
  refine (Kr.start w w (Below.refl _ _) 5 6 (by decide) (by decide) (by decide) (by decide)).mono ?_
  rintro e w1 ⟨x, rfl, k1, hb1⟩
  have K1 := Lib.hid k1
  clear k1 hb1
  go_upto_region 8 with (fail)
  obtain ⟨M0, hM0⟩ : ∃ M0, w1.heap.size = M0 := ⟨_, rfl⟩
  have MS := Lib.hid (Mm.start K1.out M0 hM0)
  obtain ⟨B1, hB⟩ : ∃ B1, M0 + 1 = B1 := ⟨_, rfl⟩
  have hB1 : (w1.alloc (.cells #[.int .i64 5, .slice none 0 0, .slice none 0 0, .slice none 0 0] 35)).heap.size = B1 := by rw [← hB, ← hM0]; simp
  try simp only [hM0]
  try simp only [hB]
  generalize w1.alloc (.cells #[.int .i64 5, .slice none 0 0, .slice none 0 0, .slice none 0 0] 35) = W2 at *
  have hal : Below W2.heap.size W2 (W2.alloc (.cells #[.string ⟨#[97]⟩, .string ⟨#[98]⟩, .string ⟨#[99]⟩, .string ⟨#[100]⟩, .string ⟨#[101]⟩] 9)) := (Below.refl _ _).alloc (Nat.le_refl _) _
  have MM := Lib.hid (MS.out.keep hal)
  have HBB1 : Hid (Blk (W2.alloc (.cells #[.string ⟨#[97]⟩, .string ⟨#[98]⟩, .string ⟨#[99]⟩, .string ⟨#[100]⟩, .string ⟨#[101]⟩] 9)) B1 9 #[.string ⟨#[97]⟩, .string ⟨#[98]⟩, .string ⟨#[99]⟩, .string ⟨#[100]⟩, .string ⟨#[101]⟩]) := by rw [← hB1]; exact Blk.new _ _ _
  have HPB1 : Hid (Nw W2 (W2.alloc (.cells #[.string ⟨#[97]⟩, .string ⟨#[98]⟩, .string ⟨#[99]⟩, .string ⟨#[100]⟩, .string ⟨#[101]⟩] 9)) (fun _ => False) B1) := .inr ⟨by omega, HBB1.out.lt⟩
  clear hB1 hB hM0 hal K1 MS
  obtain ⟨P0, hP0⟩ : ∃ P0, Nw W2 (W2.alloc (.cells #[.string ⟨#[97]⟩, .string ⟨#[98]⟩, .string ⟨#[99]⟩, .string ⟨#[100]⟩, .string ⟨#[101]⟩] 9)) (fun _ => False) = P0 := ⟨_, rfl⟩
  change Hid (Nw W2 (W2.alloc (.cells #[.string ⟨#[97]⟩, .string ⟨#[98]⟩, .string ⟨#[99]⟩, .string ⟨#[100]⟩, .string ⟨#[101]⟩] 9)) (fun _ => False) B1) at HPB1
  rw [hP0] at HPB1 MM
  clear hP0
  generalize W2.alloc (.cells #[.string ⟨#[97]⟩, .string ⟨#[98]⟩, .string ⟨#[99]⟩, .string ⟨#[100]⟩, .string ⟨#[101]⟩] 9) = W3 at *
  go_wp2_with fail
  go_loopg [11] m (fun r s11 wr => ∃ (k : Nat) (P : Nat → Prop) (a : Dp) (d : Dx), r + k = m ∧ s11 = .int .i64 (k : Int) ∧ d = mD0 T k ∧ Mm w wr P M0 x 5 6 (16 * k : Nat) (16 * k) d a ∧ P B1 ∧ Blk wr B1 9 #[.string ⟨#[97]⟩, .string ⟨#[98]⟩, .string ⟨#[99]⟩, .string ⟨#[100]⟩, .string ⟨#[101]⟩])
  case atStart => exact ⟨0, _, _, _, by omega, rfl, rfl, MM.out, HPB1.out, HBB1.out⟩
  case round =>
    clear MM HPB1 HBB1
    obtain ⟨k, P, a, d, hr, rfl, hd, hmm, hpb, hbb⟩ := hrel
    have HR := Lib.hid hr
    have HD := Lib.hid hd
    have MM := Lib.hid hmm
    have HPB1 := Lib.hid hpb
    have HBB1 := Lib.hid hbb
    have hkm : k ≤ m := by omega
    obtain ⟨d0, d1, d2, d3⟩ := blk4 hmm.bm
    clear hr hd hpb hbb hmm
    by_cases hlt : k < m
    · obtain ⟨d', hd'⟩ : ∃ d', mD0 T (k + 1) = d' := ⟨_, rfl⟩
      have HD' := Lib.hid hd'.symm
      have hadd : d.add 5 (k + 1) (mt T) = (d', List.range T, 0) := by rw [HD.out, madd hT1 hT5, hd']
      have hA := xadd_all MM.out.dx MM.out.lt MM.out.facts.2.2.2.2 (by decide) (by omega) (by omega) (by have := MM.out.facts.2.2.1; omega) (by have := MM.out.facts.2.1; omega) (k + 1) (by omega) _ (mt T) (reads_mt HBB1.out hT5) (by rw [mt_len hT5]; omega)
      rw [hadd, show ((k + 1 : Nat) : Int) = (k : Int) + 1 by omega] at hA
      unfold dixV dixCs at hA
      have HA := Lib.hid hA
      have HADD := Lib.hid hadd
      clear hA hadd hd'
      go_upto_region 12 with (go_at_call 9; refine HA.out.mono ?_; rintro e w5 ⟨a', q5, c5, rfl, hr5, hd5, b5⟩)
      simp only [List.length_range] at hr5 ⊢
      have hal : Below w5.heap.size w5 (w5.alloc (.cells #[.int .i64 5, .slice a'.p d'.nm.length a'.c, .slice a'.pA d'.all.length a'.cA, .slice a'.pS d'.sl.length a'.cS] 35)) := (Below.refl _ _).alloc (Nat.le_refl _) _
      have hbt : Below wr.heap.size wr (w5.alloc (.cells #[.int .i64 5, .slice a'.p d'.nm.length a'.c, .slice a'.pA d'.all.length a'.cA, .slice a'.pS d'.sl.length a'.cS] 35)) := b5.trans (hal.mono b5.size)
      obtain ⟨T0, hT0⟩ : ∃ T0, w5.heap.size = T0 := ⟨_, rfl⟩
      have MH6 := Lib.hid (MM.out.hold b5 hd5 hT0)
      have HRW6 : Hid (RowS (w5.alloc (.cells #[.int .i64 5, .slice a'.p d'.nm.length a'.c, .slice a'.pA d'.all.length a'.cA, .slice a'.pS d'.sl.length a'.cS] 35)) (fun g => Nw wr (w5.alloc (.cells #[.int .i64 5, .slice a'.p d'.nm.length a'.c, .slice a'.pA d'.all.length a'.cA, .slice a'.pS d'.sl.length a'.cS] 35)) P g ∨ g = M0) q5 T c5 (numsV (List.range T))) := (hr5.below hal).more (fun g hg => .inl (hg.imp (fun h => h) (fun h => ⟨h.1, Nat.lt_of_lt_of_le h.2 hal.size⟩)))
      clear hr5
      have HPB16 : Hid (Nw wr (w5.alloc (.cells #[.int .i64 5, .slice a'.p d'.nm.length a'.c, .slice a'.pA d'.all.length a'.cA, .slice a'.pS d'.sl.length a'.cS] 35)) P B1) := .inl HPB1.out
      have HBB16 := Lib.hid (Blk.below HBB1.out hbt HBB1.out.lt)
      try simp only [hT0]
      clear hT0 hal hbt hd5 b5 d0 d1 d2 d3
      obtain ⟨P6, hP6⟩ : ∃ P6, Nw wr (w5.alloc (.cells #[.int .i64 5, .slice a'.p d'.nm.length a'.c, .slice a'.pA d'.all.length a'.cA, .slice a'.pS d'.sl.length a'.cS] 35)) P = P6 := ⟨_, rfl⟩
      change Hid ((Nw wr (w5.alloc (.cells #[.int .i64 5, .slice a'.p d'.nm.length a'.c, .slice a'.pA d'.all.length a'.cA, .slice a'.pS d'.sl.length a'.cS] 35)) P) B1) at HPB16
      rw [hP6] at HPB16
      change Hid (RowS _ (fun g => Nw wr (w5.alloc (.cells #[.int .i64 5, .slice a'.p d'.nm.length a'.c, .slice a'.pA d'.all.length a'.cA, .slice a'.pS d'.sl.length a'.cS] 35)) P g ∨ g = M0) _ _ _ _) at HRW6
      rw [hP6] at HRW6
      have MH7 : Hid (Mh w (w5.alloc (.cells #[.int .i64 5, .slice a'.p d'.nm.length a'.c, .slice a'.pA d'.all.length a'.cA, .slice a'.pS d'.sl.length a'.cS] 35)) P6 M0 T0 x 5 6 ((16 * k : Nat) : Int) (16 * k) d d d' a a') := by
        have := MH6.out
        unfold dixCs at this
        rw [hP6] at this
        exact this
      clear MH6 hP6
      generalize (w5.alloc (.cells #[.int .i64 5, .slice a'.p d'.nm.length a'.c, .slice a'.pA d'.all.length a'.cA, .slice a'.pS d'.sl.length a'.cS] 35)) = W6 at *
      have hC := MH7.out.kr.addsR (by omega) (by omega) (by omega) (k + 1) (by omega) _ (mt T) (reads_mt HBB16.out hT5) (by rw [mt_len hT5]; omega) HADD.out (by rw [List.length_range]; omega) q5 c5 (by rw [List.length_range]; exact HRW6.out)
      rw [List.length_range, show ((k + 1 : Nat) : Int) = (k : Int) + 1 by omega] at hC
      have HC := Lib.hid hC
      clear hC HA HADD HRW6
      go_upto_region 14 with (go_at_call 10; refine HC.out.mono ?_; rintro e w7 ⟨rfl, k7, o7⟩)
      obtain ⟨-, mh7⟩ := MH7.out.prog ⟨rfl, k7, o7⟩
      clear k7 HC
      obtain ⟨d0, d1, d2, d3⟩ := blk4 mh7.bm
      obtain ⟨y0, y1, y2, y3⟩ := blk4 mh7.bt
      obtain ⟨f0, f1, f2, f3⟩ := froz4 mh7.bm
      have hne : T0 ≠ M0 := (mh7.pv _ mh7.pt).2
      have HNB1 : Hid (B1 ≠ M0) := (mh7.pv _ HPB16.out).2
      have HBB18 := Lib.hid (Blk.only HBB16.out o7 (fun hs => hs.1 (.inl HPB16.out)))
      clear HBB16
      have MH8 := Lib.hid mh7
      clear mh7 o7 MH7
      go_wp2_with fail
      have HBB19 : Hid (Blk (putX w7 M0 5 d' a') B1 9 #[.string ⟨#[97]⟩, .string ⟨#[98]⟩, .string ⟨#[99]⟩, .string ⟨#[100]⟩, .string ⟨#[101]⟩]) := Blk.only HBB18.out (putX_only (w := w7) (R := M0) 5 d' a') HNB1.out
      go_roundg (m - (k + 1))
      case measure => have := HR.out; omega
      case rel => exact ⟨k + 1, P6, a', d', by have := HR.out; omega, by go_num, HD'.out, (MH8.out.store).mono (by omega) (by omega), HPB16.out, HBB19.out⟩
    · obtain rfl : m = k := by omega
      have HDA : Hid (d.all = mAll T m m ev (m : Int) ∧ d.sl = mSl T m) := by
        rw [HD.out]
        exact ⟨mAll_start T m ev, rfl⟩
      clear HD HR HPB1 HBB1 hlt hkm
      go_wp2_with fail
      go_loopg [15] (m + 9) (fun r s15 wr => ∃ (cur : Int) (P : Nat → Prop) (a : Dp) (d : Dx), (r : Int) = cur + 9 ∧ cur ≤ m ∧ -9 ≤ cur ∧ s15 = .int .i64 cur ∧ (∀ i : Nat, cur = (i : Int) + 1 → i < m ∧ (m - (i + 1)) % ev = 0) ∧ d.all = mAll T m m ev cur ∧ d.sl = mSl T m ∧ Mm w wr P M0 x 5 6 (16 * m : Nat) (16 * m) d a)
      case atStart => exact ⟨m, _, _, d, by omega, by omega, by omega, rfl, fun i hi => ⟨by omega, by rw [show m - (i + 1) = 0 by omega]; exact Nat.zero_mod _⟩, HDA.out.1, HDA.out.2, MM.out⟩
      case round =>
        clear MM HDA d0 d1 d2 d3
        obtain ⟨cur, P, a, d, hr, hcm, hc9, rfl, hci, hda, hds, hmm⟩ := hrel
        have HR := Lib.hid hr
        have HCI := Lib.hid hci
        have HDA := Lib.hid hda
        have HDS := Lib.hid hds
        have MM := Lib.hid hmm
        obtain ⟨d0, d1, d2, d3⟩ := blk4 hmm.bm
        clear hr hci hda hds hmm
        by_cases hlt : 1 ≤ cur
        · obtain ⟨i, rfl⟩ : ∃ i : Nat, cur = (i : Int) + 1 := ⟨(cur - 1).toNat, by omega⟩
          obtain ⟨him, hmod⟩ := HCI.out i rfl
          obtain ⟨d', ns, hdrop, hda', hds', hns⟩ := mdrop (d := d) he1 him hmod (by rw [HDA.out]; rfl)
          have HDROP := Lib.hid hdrop
          have HMOD := Lib.hid hmod
          have HNS : Hid (ns.length ≤ 5) := Nat.le_trans hns hT5
          have HDA' : Hid (d'.all = mAll T m m ev ((i : Int) + 1 - ev)) := by rw [Hid, hda']; rfl
          have HDS' : Hid (d'.sl = mSl T m) := by rw [Hid, hds', HDS.out]
          have hA := xdrop_any MM.out.dx MM.out.lt MM.out.facts.2.2.2.2 (by decide) (by omega) (by have := MM.out.facts.2.2.1; omega) (i + 1)
          rw [hdrop, show ((i + 1 : Nat) : Int) = (i : Int) + 1 by omega] at hA
          unfold dixV dixCs at hA
          have HA := Lib.hid hA
          clear hA hdrop hmod hda' hds' hns
          go_upto_region 19 with (go_at_call 11; refine HA.out.mono ?_; rintro e w5 ⟨a', v5, rfl, hv5, hd5, b5⟩; obtain ⟨q5, c5, rfl, hr5⟩ := nums_row (P := Nw wr w5 P) hv5 (fun g h1 h2 => .inr ⟨h1, h2⟩); clear hv5)
          have hal : Below w5.heap.size w5 (w5.alloc (.cells #[.int .i64 5, .slice a'.p d'.nm.length a'.c, .slice a'.pA d'.all.length a'.cA, .slice a'.pS d'.sl.length a'.cS] 35)) := (Below.refl _ _).alloc (Nat.le_refl _) _
          have hbt : Below wr.heap.size wr (w5.alloc (.cells #[.int .i64 5, .slice a'.p d'.nm.length a'.c, .slice a'.pA d'.all.length a'.cA, .slice a'.pS d'.sl.length a'.cS] 35)) := b5.trans (hal.mono b5.size)
          obtain ⟨T0, hT0⟩ : ∃ T0, w5.heap.size = T0 := ⟨_, rfl⟩
          have MH6 := Lib.hid (MM.out.hold b5 hd5 hT0)
          have HRW6 : Hid (RowS (w5.alloc (.cells #[.int .i64 5, .slice a'.p d'.nm.length a'.c, .slice a'.pA d'.all.length a'.cA, .slice a'.pS d'.sl.length a'.cS] 35)) (fun g => Nw wr (w5.alloc (.cells #[.int .i64 5, .slice a'.p d'.nm.length a'.c, .slice a'.pA d'.all.length a'.cA, .slice a'.pS d'.sl.length a'.cS] 35)) P g ∨ g = M0) q5 ns.length c5 (numsV ns)) := (hr5.below hal).more (fun g hg => .inl (hg.imp (fun h => h) (fun h => ⟨h.1, Nat.lt_of_lt_of_le h.2 hal.size⟩)))
          clear hr5
          try simp only [hT0]
          clear hT0 hal hbt hd5 b5 d0 d1 d2 d3
          obtain ⟨P6, hP6⟩ : ∃ P6, Nw wr (w5.alloc (.cells #[.int .i64 5, .slice a'.p d'.nm.length a'.c, .slice a'.pA d'.all.length a'.cA, .slice a'.pS d'.sl.length a'.cS] 35)) P = P6 := ⟨_, rfl⟩
          change Hid (RowS _ (fun g => Nw wr (w5.alloc (.cells #[.int .i64 5, .slice a'.p d'.nm.length a'.c, .slice a'.pA d'.all.length a'.cA, .slice a'.pS d'.sl.length a'.cS] 35)) P g ∨ g = M0) _ _ _ _) at HRW6
          rw [hP6] at HRW6
          have MH7 : Hid (Mh w (w5.alloc (.cells #[.int .i64 5, .slice a'.p d'.nm.length a'.c, .slice a'.pA d'.all.length a'.cA, .slice a'.pS d'.sl.length a'.cS] 35)) P6 M0 T0 x 5 6 ((16 * m : Nat) : Int) (16 * m) d d d' a a') := by
            have := MH6.out
            unfold dixCs at this
            rw [hP6] at this
            exact this
          clear MH6 hP6
          generalize (w5.alloc (.cells #[.int .i64 5, .slice a'.p d'.nm.length a'.c, .slice a'.pA d'.all.length a'.cA, .slice a'.pS d'.sl.length a'.cS] 35)) = W6 at *
          have hC := MH7.out.kr.dropsR (by omega) (by omega) (i + 1) (by omega) HDROP.out (by have := HNS.out; omega) q5 c5 HRW6.out
          rw [show ((i + 1 : Nat) : Int) = (i : Int) + 1 by omega] at hC
          have HC := Lib.hid hC
          clear hC HA HDROP HRW6
          go_upto_region 21 with (go_at_call 12; refine HC.out.mono ?_; rintro e w7 ⟨rfl, k7, o7⟩)
          obtain ⟨-, mh7⟩ := MH7.out.prog ⟨rfl, k7, o7⟩
          clear k7 HC
          obtain ⟨d0, d1, d2, d3⟩ := blk4 mh7.bm
          obtain ⟨y0, y1, y2, y3⟩ := blk4 mh7.bt
          obtain ⟨f0, f1, f2, f3⟩ := froz4 mh7.bm
          have hne : T0 ≠ M0 := (mh7.pv _ mh7.pt).2
          have MH8 := Lib.hid mh7
          clear mh7 o7 MH7
          go_wp2_with fail
          go_roundg (i + 10 - ev)
          case measure => have := HR.out; omega
          case rel =>
            refine ⟨(i : Int) + 1 - ev, P6, a', d', by omega, by omega, by omega, by go_num, fun i2 hi2 => ⟨by omega, ?_⟩, HDA'.out, HDS'.out, MH8.out.store⟩
            rw [show m - (i2 + 1) = m - (i + 1) + ev by omega, Nat.add_mod_right]
            exact HMOD.out
        · have hcur : cur ≤ 0 := by omega
          obtain ⟨Af, hAf⟩ : ∃ Af, mAll T m m ev cur = Af := ⟨_, rfl⟩
          have HFIN : Hid (wrongX Af (mSlj Af T m T) = 0 ∧ (mSlj Af T m T).length = T * (m - (m + ev - 1) / ev)) := by
            rw [← hAf]
            exact mfinal hm he1 he9 hcur
          have HDA2 : Hid (d.all = Af) := HDA.out.trans hAf
          clear HR HCI HDA hAf
          have hT1i : IntKind.i64.wrap ((T : Int) - 1) = (T : Int) - 1 := IntWalk.i64_in _ (by omega)
          go_upto_region 23 with (fail)
          obtain ⟨B2, hB2⟩ : ∃ B2, wr.heap.size = B2 := ⟨_, rfl⟩
          obtain ⟨A0, hA0⟩ : ∃ A0, B2 + 1 = A0 := ⟨_, rfl⟩
          have hsz : (wr.alloc (.cells #[.string ⟨#[97]⟩, .string ⟨#[101]⟩] 9)).heap.size = A0 := by rw [← hA0, ← hB2]; simp
          have hba : Below wr.heap.size wr ((wr.alloc (.cells #[.string ⟨#[97]⟩, .string ⟨#[101]⟩] 9)).alloc (.cells #[.int .i64 0, .int .u64 0, .slice (some ⟨B2, 0, none⟩) 2 2, .int .i64 ((T : Int) - 1), .int .i64 0] 38)) := ((Below.refl _ _).alloc (Nat.le_refl _) _).alloc (by simp) _
          have MM2 := Lib.hid (MM.out.keep hba)
          have HBB2 : Hid (Blk ((wr.alloc (.cells #[.string ⟨#[97]⟩, .string ⟨#[101]⟩] 9)).alloc (.cells #[.int .i64 0, .int .u64 0, .slice (some ⟨B2, 0, none⟩) 2 2, .int .i64 ((T : Int) - 1), .int .i64 0] 38)) B2 9 #[.string ⟨#[97]⟩, .string ⟨#[101]⟩]) := by rw [← hB2]; exact Blk.alloc (Blk.new _ _ _) _
          have HBA0 : Hid (Blk ((wr.alloc (.cells #[.string ⟨#[97]⟩, .string ⟨#[101]⟩] 9)).alloc (.cells #[.int .i64 0, .int .u64 0, .slice (some ⟨B2, 0, none⟩) 2 2, .int .i64 ((T : Int) - 1), .int .i64 0] 38)) A0 38 #[.int .i64 0, .int .u64 0, .slice (some ⟨B2, 0, none⟩) 2 2, .int .i64 ((T : Int) - 1), .int .i64 0]) := by rw [← hsz]; exact Blk.new _ _ _
          have HPB2 : Hid (Nw wr ((wr.alloc (.cells #[.string ⟨#[97]⟩, .string ⟨#[101]⟩] 9)).alloc (.cells #[.int .i64 0, .int .u64 0, .slice (some ⟨B2, 0, none⟩) 2 2, .int .i64 ((T : Int) - 1), .int .i64 0] 38)) P B2) := .inr ⟨by omega, HBB2.out.lt⟩
          have HPA0 : Hid (Nw wr ((wr.alloc (.cells #[.string ⟨#[97]⟩, .string ⟨#[101]⟩] 9)).alloc (.cells #[.int .i64 0, .int .u64 0, .slice (some ⟨B2, 0, none⟩) 2 2, .int .i64 ((T : Int) - 1), .int .i64 0] 38)) P A0) := .inr ⟨by omega, HBA0.out.lt⟩
          try simp only [hB2]
          try simp only [hA0]
          clear hB2 hA0 hsz hba d0 d1 d2 d3 MM
          obtain ⟨P3, hP3⟩ : ∃ P3, Nw wr ((wr.alloc (.cells #[.string ⟨#[97]⟩, .string ⟨#[101]⟩] 9)).alloc (.cells #[.int .i64 0, .int .u64 0, .slice (some ⟨B2, 0, none⟩) 2 2, .int .i64 ((T : Int) - 1), .int .i64 0] 38)) P = P3 := ⟨_, rfl⟩
          change Hid ((Nw wr ((wr.alloc (.cells #[.string ⟨#[97]⟩, .string ⟨#[101]⟩] 9)).alloc (.cells #[.int .i64 0, .int .u64 0, .slice (some ⟨B2, 0, none⟩) 2 2, .int .i64 ((T : Int) - 1), .int .i64 0] 38)) P) B2) at HPB2
          change Hid ((Nw wr ((wr.alloc (.cells #[.string ⟨#[97]⟩, .string ⟨#[101]⟩] 9)).alloc (.cells #[.int .i64 0, .int .u64 0, .slice (some ⟨B2, 0, none⟩) 2 2, .int .i64 ((T : Int) - 1), .int .i64 0] 38)) P) A0) at HPA0
          rw [hP3] at HPB2 HPA0 MM2
          clear hP3
          generalize (wr.alloc (.cells #[.string ⟨#[97]⟩, .string ⟨#[101]⟩] 9)).alloc (.cells #[.int .i64 0, .int .u64 0, .slice (some ⟨B2, 0, none⟩) 2 2, .int .i64 ((T : Int) - 1), .int .i64 0] 38) = W4 at *
          have MM := MM2
          clear MM2
          obtain ⟨d0, d1, d2, d3⟩ := blk4 MM.out.bm
          obtain ⟨c0, c1, c2, c3, c4⟩ := blk5 HBA0.out
          go_wp2_with fail
          refine (MM.out.isx (by omega) 0 0 (some ⟨B2, 0, none⟩) 2 [[97], [101]] ((T : Int) - 1) 0 (reads_ae HBB2.out) (fun g hg => .inl (.inl (by cases hg; exact HPB2.out))) (by decide) (by decide)).mono ?_
          rintro e w8 ⟨rfl, mm8, o8⟩
          have MM8 := Lib.hid mm8
          have HBB28 := Lib.hid (Blk.only HBB2.out o8 (fun hs => hs.1 (.inl HPB2.out)))
          have HBA08 := Lib.hid (Blk.only HBA0.out o8 (fun hs => hs.1 (.inl HPA0.out)))
          clear mm8 o8 d0 d1 d2 d3 c0 c1 c2 c3 c4 MM HBB2 HBA0
          go_wp2_with fail
          go_loopg [20] T (fun r s20 wr => ∃ (j n : Nat) (P : Nat → Prop) (a : Dp) (d : Dx), r + j = T ∧ s20 = .int .i64 (j : Int) ∧ n ≤ 2400 + 151 * j ∧ d.all = Af ∧ d.sl = mSlj Af T m j ∧ Mm w wr P M0 x 5 6 (16 * m : Nat) n d a ∧ P B2 ∧ P A0 ∧ Blk wr B2 9 #[.string ⟨#[97]⟩, .string ⟨#[101]⟩] ∧ Blk wr A0 38 #[.int .i64 0, .int .u64 0, .slice (some ⟨B2, 0, none⟩) 2 2, .int .i64 ((T : Int) - 1), .int .i64 0])
          case atStart => exact ⟨0, _, _, _, d, by omega, rfl, by omega, HDA2.out, by rw [mSlj_zero]; exact HDS.out, MM8.out, HPB2.out, HPA0.out, HBB28.out, HBA08.out⟩
          case round =>
            clear MM8 HPB2 HPA0 HBB28 HBA08 HDA2 HDS
            obtain ⟨j, n, P, a, d, hr, rfl, hn, hda, hds, hmm, hp2, hp0, hb2, hb0⟩ := hrel
            have HR := Lib.hid hr
            have HDA := Lib.hid hda
            have HDS := Lib.hid hds
            have MM := Lib.hid hmm
            have HPB2 := Lib.hid hp2
            have HPA0 := Lib.hid hp0
            have HBB2 := Lib.hid hb2
            have HBA0 := Lib.hid hb0
            have hjT : j ≤ T := by omega
            clear hr hda hds hmm hp2 hp0 hb2 hb0
            by_cases hlt : j < T
            · have HST : Hid ((cutsD j (m + 1) d).all = Af ∧ (cutsD j (m + 1) d).sl = mSlj Af T m (j + 1)) := by
                rw [cutsD_is (by omega) (m + 1) d (fun b id hb hid => ?_)]
                · exact ⟨HDA.out, by show d.sl.filter (keepN d.all j) = _; rw [HDA.out, HDS.out, mSlj_next]⟩
                · have h1 := mSl_ofX Af T m j j
                  rw [← HDS.out] at h1
                  have := (List.getElem?_eq_some_iff.1 hid).1
                  omega
              go_wp2_with fail
              go_loopg [21] (m + 1) (fun r s21 wr => ∃ (i n : Nat) (z : Int) (P : Nat → Prop) (a : Dp) (d : Dx), r = i ∧ i ≤ m + 1 ∧ s21 = .int .i64 z ∧ z + 1 = (i : Int) ∧ n + i ≤ 2400 + 151 * j + (m + 1) ∧ (cutsD j i d).all = Af ∧ (cutsD j i d).sl = mSlj Af T m (j + 1) ∧ Mm w wr P M0 x 5 6 (16 * m : Nat) n d a ∧ P B2 ∧ P A0 ∧ Blk wr B2 9 #[.string ⟨#[97]⟩, .string ⟨#[101]⟩] ∧ Blk wr A0 38 #[.int .i64 0, .int .u64 0, .slice (some ⟨B2, 0, none⟩) 2 2, .int .i64 ((T : Int) - 1), .int .i64 0])
              case atStart => exact ⟨m + 1, n, m, P, a, d, rfl, by omega, rfl, by omega, by omega, HST.out.1, HST.out.2, MM.out, HPB2.out, HPA0.out, HBB2.out, HBA0.out⟩
              case round =>
                clear MM HPB2 HPA0 HBB2 HBA0 HDA HDS HST
                obtain ⟨ii, n, z, P, a, d, hri, him, rfl, hz, hn, hda, hds, hmm, hp2, hp0, hb2, hb0⟩ := hrel
                have MM := Lib.hid hmm
                have HPB2 := Lib.hid hp2
                have HPA0 := Lib.hid hp0
                have HBB2 := Lib.hid hb2
                have HBA0 := Lib.hid hb0
                obtain ⟨d0, d1, d2, d3⟩ := blk4 hmm.bm
                clear hmm hp2 hp0 hb2 hb0
                match ii, hri, him, hz, hn, hda, hds with
                | 0, hri, him, hz, hn, hda, hds =>
                  obtain rfl : z = -1 := by omega
                  have HDA := Lib.hid hda
                  have HDS := Lib.hid hds
                  clear hda hds hz hri
                  go_wp2_with fail
                  go_roundg (T - (j + 1))
                  case measure => have := HR.out; omega
                  case rel => exact ⟨j + 1, n, P, a, d, by omega, by go_num, by omega, HDA.out, HDS.out, MM.out, HPB2.out, HPA0.out, HBB2.out, HBA0.out⟩
                | i + 1, hri, him, hz, hn, hda, hds =>
                  have HRI := Lib.hid hri
                  clear hri
                  obtain rfl : z = (i : Int) := by omega
                  obtain ⟨⟨d', bb, er⟩, hcut⟩ : ∃ r, d.cut (j : Int) (i : Int) = r := ⟨_, rfl⟩
                  have HDA : Hid ((cutsD j i d').all = Af) := by
                    have : cutsD j (i + 1) d = cutsD j i d' := by show cutsD j i (d.cut (j : Int) (i : Int)).1 = _; rw [hcut]
                    rw [← this]; exact hda
                  have HDS : Hid ((cutsD j i d').sl = mSlj Af T m (j + 1)) := by
                    have : cutsD j (i + 1) d = cutsD j i d' := by show cutsD j i (d.cut (j : Int) (i : Int)).1 = _; rw [hcut]
                    rw [← this]; exact hds
                  have HCUT := Lib.hid hcut
                  have hA := xcut_any MM.out.dx MM.out.lt 5 (by have := MM.out.facts.2.1; omega) (by have := MM.out.facts.2.2.1; omega) (j : Int) (i : Int)
                  rw [hcut] at hA
                  unfold dixV dixCs at hA
                  have HA := Lib.hid hA
                  clear hA hcut hda hds hz
                  go_upto_region 32 with (go_at_call 13; refine HA.out.mono ?_; rintro e w5 ⟨a', rfl, hd5, b5⟩)
                  have hal : Below w5.heap.size w5 (w5.alloc (.cells #[.int .i64 5, .slice a'.p d'.nm.length a'.c, .slice a'.pA d'.all.length a'.cA, .slice a'.pS d'.sl.length a'.cS] 35)) := (Below.refl _ _).alloc (Nat.le_refl _) _
                  have hbt : Below wr.heap.size wr (w5.alloc (.cells #[.int .i64 5, .slice a'.p d'.nm.length a'.c, .slice a'.pA d'.all.length a'.cA, .slice a'.pS d'.sl.length a'.cS] 35)) := b5.trans (hal.mono b5.size)
                  obtain ⟨T0, hT0⟩ : ∃ T0, w5.heap.size = T0 := ⟨_, rfl⟩
                  have MH6 := Lib.hid (MM.out.hold b5 hd5 hT0)
                  skip
                  have HPB26 : Hid (Nw wr (w5.alloc (.cells #[.int .i64 5, .slice a'.p d'.nm.length a'.c, .slice a'.pA d'.all.length a'.cA, .slice a'.pS d'.sl.length a'.cS] 35)) P B2) := .inl HPB2.out
                  have HBB26 := Lib.hid (Blk.below HBB2.out hbt HBB2.out.lt)
                  have HPA06 : Hid (Nw wr (w5.alloc (.cells #[.int .i64 5, .slice a'.p d'.nm.length a'.c, .slice a'.pA d'.all.length a'.cA, .slice a'.pS d'.sl.length a'.cS] 35)) P A0) := .inl HPA0.out
                  have HBA06 := Lib.hid (Blk.below HBA0.out hbt HBA0.out.lt)
                  try simp only [hT0]
                  clear hT0 hal hbt hd5 b5 d0 d1 d2 d3
                  obtain ⟨P6, hP6⟩ : ∃ P6, Nw wr (w5.alloc (.cells #[.int .i64 5, .slice a'.p d'.nm.length a'.c, .slice a'.pA d'.all.length a'.cA, .slice a'.pS d'.sl.length a'.cS] 35)) P = P6 := ⟨_, rfl⟩
                  change Hid ((Nw wr (w5.alloc (.cells #[.int .i64 5, .slice a'.p d'.nm.length a'.c, .slice a'.pA d'.all.length a'.cA, .slice a'.pS d'.sl.length a'.cS] 35)) P) B2) at HPB26
                  rw [hP6] at HPB26
                  change Hid ((Nw wr (w5.alloc (.cells #[.int .i64 5, .slice a'.p d'.nm.length a'.c, .slice a'.pA d'.all.length a'.cA, .slice a'.pS d'.sl.length a'.cS] 35)) P) A0) at HPA06
                  rw [hP6] at HPA06
                  have MH7 : Hid (Mh w (w5.alloc (.cells #[.int .i64 5, .slice a'.p d'.nm.length a'.c, .slice a'.pA d'.all.length a'.cA, .slice a'.pS d'.sl.length a'.cS] 35)) P6 M0 T0 x 5 6 ((16 * m : Nat) : Int) n d d d' a a') := by
                    have := MH6.out
                    unfold dixCs at this
                    rw [hP6] at this
                    exact this
                  clear MH6 hP6
                  generalize (w5.alloc (.cells #[.int .i64 5, .slice a'.p d'.nm.length a'.c, .slice a'.pA d'.all.length a'.cA, .slice a'.pS d'.sl.length a'.cS] 35)) = W6 at *
                  have hC := MH7.out.kr.cuts (by omega) (j : Int) (i : Int) HCUT.out
                  have HC := Lib.hid hC
                  clear hC HA HCUT
                  go_upto_region 34 with (go_at_call 14; refine HC.out.mono ?_; rintro e w7 ⟨rfl, k7, o7⟩)
                  obtain ⟨-, mh7⟩ := MH7.out.prog ⟨rfl, k7, o7⟩
                  clear k7 HC
                  obtain ⟨d0, d1, d2, d3⟩ := blk4 mh7.bm
                  obtain ⟨y0, y1, y2, y3⟩ := blk4 mh7.bt
                  obtain ⟨f0, f1, f2, f3⟩ := froz4 mh7.bm
                  have hne : T0 ≠ M0 := (mh7.pv _ mh7.pt).2
                  have HNB2 : Hid (B2 ≠ M0) := (mh7.pv _ HPB26.out).2
                  have HBB28 := Lib.hid (Blk.only HBB26.out o7 (fun hs => hs.1 (.inl HPB26.out)))
                  clear HBB26
                  have HNA0 : Hid (A0 ≠ M0) := (mh7.pv _ HPA06.out).2
                  have HBA08 := Lib.hid (Blk.only HBA06.out o7 (fun hs => hs.1 (.inl HPA06.out)))
                  clear HBA06
                  have MH8 := Lib.hid mh7
                  clear mh7 o7 MH7
                  go_wp2_with fail
                  have HBB29 : Hid (Blk (putX w7 M0 5 d' a') B2 9 #[.string ⟨#[97]⟩, .string ⟨#[101]⟩]) := Blk.only HBB28.out (putX_only (w := w7) (R := M0) 5 d' a') HNB2.out
                  have HBA09 : Hid (Blk (putX w7 M0 5 d' a') A0 38 #[.int .i64 0, .int .u64 0, .slice (some ⟨B2, 0, none⟩) 2 2, .int .i64 ((T : Int) - 1), .int .i64 0]) := Blk.only HBA08.out (putX_only (w := w7) (R := M0) 5 d' a') HNA0.out
                  go_roundg i
                  case measure => have := HRI.out; omega
                  case rel => exact ⟨i, n + 1, (i : Int) - 1, P6, a', d', rfl, by omega, by go_num, by omega, by omega, HDA.out, HDS.out, MH8.out.store, HPB26.out, HPA06.out, HBB29.out, HBA09.out⟩
            · obtain rfl : T = j := by omega
              obtain ⟨TQ, hTQ⟩ : ∃ TQ, T * (m - (m + ev - 1) / ev) = TQ := ⟨_, rfl⟩
              have HSZ : Hid (d.sl.length = TQ) := by rw [Hid, HDS.out, HFIN.out.2, hTQ]
              have HWR : Hid (wrongX d.all d.sl = 0) := by rw [Hid, HDA.out, HDS.out]; exact HFIN.out.1
              obtain ⟨qq, hqq⟩ : ∃ qq, (m + ev - 1) / ev = qq := ⟨_, rfl⟩
              have hqm : qq ≤ m := by
                rw [← hqq]
                exact Nat.le_of_lt_succ ((Nat.div_lt_iff_lt_mul (by omega)).2 (by
                  have : m + ev - 1 < (m + 1) * ev := by
                    rw [Nat.add_mul, Nat.one_mul]
                    have := Nat.le_mul_of_pos_right m (show 0 < ev by omega)
                    omega
                  exact this))
              have hTQi : (T : Int) * ((m : Int) - (qq : Int)) = (TQ : Int) := by
                rw [← hTQ, hqq, Int.natCast_mul, Int.natCast_sub hqm]
              have hQQ : ((m : Int) + (ev : Int) - 1) / (ev : Int) = (qq : Int) := by
                have h1 : (m : Int) + (ev : Int) - 1 = ((m + ev - 1 : Nat) : Int) := by omega
                rw [h1, ← hqq]
                rfl
              have hTQb : TQ ≤ 750 := by
                rw [← hTQ, hqq]
                exact Nat.le_trans (Nat.mul_le_mul hT5 (Nat.sub_le _ _)) (by omega)
              have hw1 : wrap64 ((m : Int) - (qq : Int)) = (m : Int) - (qq : Int) := IntWalk.wrap64_in _ (by omega)
              have hw2 : wrap64 (TQ : Int) = (TQ : Int) := IntWalk.wrap64_in _ (by omega)
              clear hTQ hqq
              go_wp2_with fail
              refine (MM.out.sizes HSZ.out HWR.out).mono ?_
              rintro e w8 ⟨rfl, mm8, b8⟩
              have MM8 := Lib.hid mm8
              have HBB28 := Lib.hid (Blk.below HBB2.out b8 HBB2.out.lt)
              have HBA08 := Lib.hid (Blk.below HBA0.out b8 HBA0.out.lt)
              obtain ⟨d0, d1, d2, d3⟩ := blk4 mm8.bm
              obtain ⟨c0, c1, c2, c3, c4⟩ := blk5 HBA08.out
              clear mm8 b8 MM HBB2 HBA0
              go_wp2_with fail
              refine (MM8.out.isx (by omega) 0 0 (some ⟨B2, 0, none⟩) 2 [[97], [101]] ((T : Int) - 1) 0 (reads_ae HBB28.out) (fun g hg => .inl (.inl (by cases hg; exact HPB2.out))) (by decide) (by decide)).mono ?_
              rintro e w9 ⟨rfl, mm9, -⟩
              have MM9 := Lib.hid mm9
              clear mm9 MM8 HBB28 HBA08 d0 d1 d2 d3 c0 c1 c2 c3 c4
              go_wp2_with (go_at_call 7; refine (rknown_any _).mono ?_; rintro e w10 ⟨rfl, b10⟩)
              go_ret
              exact ⟨rfl, MM9.out.kr.bel.trans (b10.mono MM9.out.kr.bel.size)⟩
set_option maxHeartbeats 4000000 in
set_option maxRecDepth 100000 in
theorem rmany_bad (many tags every : Int) (h : ¬ (0 ≤ many ∧ many ≤ 150 ∧ 1 ≤ tags ∧ tags ≤ 5 ∧ 1 ≤ every ∧ every ≤ 9)) (w : World) :
    Calls Tryz.prog 4 #[.int .i64 many, .int .u8 tags, .int .u8 every] w fun e w' => e = .returned (.bool true) ∧ Below w.heap.size w w' := by
  by_cases h1 : many < 0
  · clear h
    go_enter Tryz.func4, Tryz.ntmps4
    go_wp2_with (go_at_call 7; refine (rknown_any _).mono ?_; rintro e w1 ⟨rfl, b1⟩)
    go_ret
    exact ⟨rfl, b1⟩
  · by_cases h2 : 150 < many
    · clear h
      go_enter Tryz.func4, Tryz.ntmps4
      go_wp2_with (go_at_call 7; refine (rknown_any _).mono ?_; rintro e w1 ⟨rfl, b1⟩)
      go_ret
      exact ⟨rfl, b1⟩
    · by_cases h3 : tags < 1
      · clear h
        go_enter Tryz.func4, Tryz.ntmps4
        go_wp2_with (go_at_call 7; refine (rknown_any _).mono ?_; rintro e w1 ⟨rfl, b1⟩)
        go_ret
        exact ⟨rfl, b1⟩
      · by_cases h4 : 5 < tags
        · clear h
          go_enter Tryz.func4, Tryz.ntmps4
          go_wp2_with (go_at_call 7; refine (rknown_any _).mono ?_; rintro e w1 ⟨rfl, b1⟩)
          go_ret
          exact ⟨rfl, b1⟩
        · by_cases h5 : every < 1
          · clear h
            go_enter Tryz.func4, Tryz.ntmps4
            go_wp2_with (go_at_call 7; refine (rknown_any _).mono ?_; rintro e w1 ⟨rfl, b1⟩)
            go_ret
            exact ⟨rfl, b1⟩
          · have h6 : 9 < every := by omega
            clear h
            go_enter Tryz.func4, Tryz.ntmps4
            go_wp2_with (go_at_call 7; refine (rknown_any _).mono ?_; rintro e w1 ⟨rfl, b1⟩)
            go_ret
            exact ⟨rfl, b1⟩
theorem rmany_walk (many tags every : Int) (b1 : 0 ≤ tags) (b2 : 0 ≤ every) (w : World) :
    Calls Tryz.prog 4 #[.int .i64 many, .int .u8 tags, .int .u8 every] w fun e w' => e = .returned (.bool true) ∧ Below w.heap.size w w' := by
  by_cases h : 0 ≤ many ∧ many ≤ 150 ∧ 1 ≤ tags ∧ tags ≤ 5 ∧ 1 ≤ every ∧ every ≤ 9
  · obtain ⟨m, rfl⟩ : ∃ m : Nat, many = (m : Int) := ⟨many.toNat, by omega⟩
    obtain ⟨T, rfl⟩ : ∃ T : Nat, tags = (T : Int) := ⟨tags.toNat, by omega⟩
    obtain ⟨ev, rfl⟩ : ∃ ev : Nat, every = (ev : Int) := ⟨every.toNat, by omega⟩
    exact rmany_good m T ev (by omega) (by omega) (by omega) (by omega) (by omega) w
  · exact rmany_bad many tags every h w
end Go.Proofs.YtfpkeinknhijaaaGreat
