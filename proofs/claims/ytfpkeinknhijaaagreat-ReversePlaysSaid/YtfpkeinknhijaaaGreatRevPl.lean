/- ReversePlays. -/
import Derived.Test.YtfpkeinknhijaaaGreatRevPt
import Derived.Test.YtfpkeinknhijaaaGreatRevOf
import Derived.Test.YtfpkeinknhijaaaGreatQTail
import Derived.Deep.CutBlock
import Derived.Deep.DeepCutAuto
namespace Go.Proofs.YtfpkeinknhijaaaGreat
set_option linter.unusedVariables false
open Go.RowKit Go.Maps Go.Sort

section
variable {V w w' : World} {S P : Nat → Prop} {M0 x : Nat} {most seed R : Int} {n : Nat} {d : Dx} {a : Dp}
theorem RStep.mono {e : Ending} (h : RStep V w S P most seed R n d e w') {R' : Int} {n' : Nat} (hR : R ≤ R') (hn : n ≤ n') : RStep V w S P most seed R' n' d e w' := by
  obtain ⟨x', a', P', he, k, hd, hp, ho⟩ := h
  exact ⟨x', a', P', he, k.mono hR hn, hd, hp, ho⟩
/-- Any call. -/
theorem rstep_any (k : Kr V w S x most seed R n d) (hn : n ≤ 9000) (hR0 : 0 ≤ R) (hR : R ≤ 100000) (h : Dix w P d a) (hP : ∀ g, P g → S g) (what : Int) (id : Nat) (hid : id ≤ 18446744073709551615) (p : Option Addr) (cp : Nat) (ts : List (List UInt8)) (nn ii : Int) (hTR : ∀ (W3 : World), Only (fun g => ¬ S g ∧ V.heap.size ≤ g) w W3 → Reads W3 (.slice p ts.length cp) (ts.map encStr)) (htl : ts.length ≤ 20) :
    Calls Tryz.prog 17 #[.pointer (some ⟨x, 0, none⟩), dixV most d a, .agg #[.int .i64 what, .int .u64 (id : Int), .slice p ts.length cp, .int .i64 nn, .int .i64 ii]] w (fun e w' => ∃ d2, RStep V w S P most seed (R + 16) (n + 17) d2 e w') := by
  by_cases w0 : what = 0
  · subst w0
    refine (rstep_add0 k hn hR0 hR h hP id hid p cp ts nn ii hTR htl).mono ?_
    rintro e w' ⟨z, -, hs⟩
    exact ⟨_, hs.mono (by omega) (by omega)⟩
  · by_cases w1 : what = 1
    · subst w1
      refine (rstep_add1 k hn hR0 hR h hP id hid p cp ts nn ii hTR htl).mono ?_
      rintro e w' ⟨z, -, hs⟩
      exact ⟨_, hs.mono (by omega) (by omega)⟩
    · by_cases w2 : what = 2
      · subst w2
        exact (rstep_drop k hn hR0 hR h hP id hid p cp ts nn ii hTR htl).mono fun e w' hs => ⟨_, hs.mono (by omega) (by omega)⟩
      · by_cases w3 : what = 3
        · subst w3
          exact (rstep_cut k hn hR0 hR h hP id hid p cp ts nn ii hTR htl).mono fun e w' hs => ⟨_, hs.mono (by omega) (by omega)⟩
        · exact (rstep_copy k hn hR0 hR h hP what w0 w1 w2 w3 id hid p cp ts nn ii hTR htl).mono fun e w' hs => ⟨_, hs.mono (by omega) (by omega)⟩
/-- The result in a box that is made behind the call. -/
theorem Mm.after (h : Mm V w P M0 x most seed R n d a) {w5 : World} {P' : Nat → Prop} {x' : Nat} {R' : Int} {n' : Nat} {d2 : Dx} {a' : Dp} (k5 : Kr V w5 (fun g => (P g ∨ g = M0) ∨ P' g) x' most seed R' n' d2) (d5 : Dix w5 P' d2 a') (p5 : ∀ g, P' g → P g ∨ w.heap.size ≤ g) (o5 : Only (fun g => ¬ (P g ∨ g = M0) ∧ V.heap.size ≤ g) w w5) {T : Nat} (hT : w5.heap.size = T) :
    Mh V (w5.alloc (.cells (dixCs most d2 a') 35)) (fun g => (P g ∨ P' g) ∨ g = T) M0 T x' most seed R' n' d2 d d2 a a' := by
  subst hT
  have hal : Below w5.heap.size w5 (w5.alloc (.cells (dixCs most d2 a') 35)) := (Below.refl _ _).alloc (Nat.le_refl _) _
  have hbt : Blk (w5.alloc (.cells (dixCs most d2 a') 35)) w5.heap.size 35 (dixCs most d2 a') := Blk.new _ _ _
  have hml := h.bm.lt
  have hos := o5.size
  have hvs := h.kr.bel.size
  refine ⟨k5.keep hal (fun g hg => ?_), (d5.below hal).more (fun g hg => .inl (.inr hg)), (h.bm.only o5 (fun hs => hs.1 (.inr rfl))).below hal (by omega), hbt, .inr rfl, fun g hg => ?_, h.mv⟩
  · rcases hg with ((hg | hg) | hg) | hg
    · exact .inl (.inl (.inl hg))
    · exact .inl (.inr hg)
    · exact .inr ⟨by omega, by rw [hg]; exact hbt.lt⟩
    · exact .inl (.inl (.inr hg))
  · rcases hg with (hg | hg) | hg
    · exact h.pv g hg
    · rcases p5 g hg with hp | hp
      · exact h.pv g hp
      · exact ⟨by omega, by omega⟩
    · exact ⟨by omega, by omega⟩
/-- The result in a box T that was made ahead of the call. -/
theorem Mm.before {P0 : Nat → Prop} (h : Mm V w P M0 x most seed R n d a) {w5 : World} {P' : Nat → Prop} {x' : Nat} {R' : Int} {n' : Nat} {d2 : Dx} {a' : Dp} (k5 : Kr V w5 (fun g => (P g ∨ g = M0) ∨ P' g) x' most seed R' n' d2) (d5 : Dix w5 P' d2 a') (p5 : ∀ g, P' g → P0 g ∨ w.heap.size ≤ g) (o5 : Only (fun g => ¬ (P g ∨ g = M0) ∧ V.heap.size ≤ g) w w5) {T : Nat} (hT : P T) (hT0 : ¬ P0 T) (hP0 : ∀ g, P0 g → P g) {c0 c1 c2 c3 : Value} (hb : Blk w T 35 #[c0, c1, c2, c3]) :
    Mh V (putX w5 T most d2 a') (fun g => P g ∨ P' g) M0 T x' most seed R' n' d2 d d2 a a' := by
  have ho := putX_only (w := w5) (R := T) most d2 a'
  have hbT := hb.only o5 (fun hs => hs.1 (.inl hT))
  have hml := h.bm.lt
  have hvs := h.kr.bel.size
  have hTl := hb.lt
  have hTM := (h.pv T hT).2
  have hTV := (h.pv T hT).1
  have k6 : Kr V (putX w5 T most d2 a') (fun g => (P g ∨ g = M0) ∨ P' g) x' most seed R' n' d2 := k5.goU ho (fun g hg => ⟨.inl (.inl (by rw [hg]; exact hT)), by omega⟩)
  refine ⟨k6.less (fun g hg => ?_), (d5.only ho (fun g hg he => ?_)).more (fun g hg => .inr hg), (h.bm.only o5 (fun hs => hs.1 (.inr rfl))).only ho (fun he => hTM he.symm), putX_blk hbT _ _ _, .inl hT, fun g hg => ?_, h.mv⟩
  · rcases hg with (hg | hg) | hg
    · exact .inl (.inl hg)
    · exact .inr hg
    · exact .inl (.inr hg)
  · rcases p5 g hg with hp | hp
    · exact hT0 (he ▸ hp)
    · omega
  · rcases hg with hg | hg
    · exact h.pv g hg
    · rcases p5 g hg with hp | hp
      · exact h.pv g (hP0 g hp)
      · exact ⟨by omega, by omega⟩
theorem Mh.below {T : Nat} {d0 d' : Dx} {a' : Dp} (h : Mh V w P M0 T x most seed R n d d0 d' a a') (hb : Below w.heap.size w w') : Mh V w' P M0 T x most seed R n d d0 d' a a' :=
  ⟨h.kr.quiet hb, h.dx.below hb, h.bm.below hb h.bm.lt, h.bt.below hb h.bt.lt, h.pt, h.pv, h.mv⟩
/-- The law's is of the new index. -/
theorem Mh.isx {T : Nat} {d0 : Dx} {a' : Dp} (h : Mh V w P M0 T x most seed R n d d0 d a a') (hn : n ≤ 10000) (what : Int) (id : Nat) (tp : Option Addr) (tc : Nat) (ts : List (List UInt8)) (an ai : Int) (hTR : ∀ (W3 : World), Only (fun g => ¬ (P g ∨ g = M0) ∧ V.heap.size ≤ g) w W3 → Reads W3 (.slice tp ts.length tc) (ts.map encStr)) (htl : ts.length ≤ 1000) (htb : ∀ s ∈ ts, s.length ≤ 1000) :
    Calls Tryz.prog 8 #[.pointer (some ⟨x, 0, none⟩), dixV most d a', .agg #[.int .i64 what, .int .u64 (id : Int), .slice tp ts.length tc, .int .i64 an, .int .i64 ai]] w
      fun e w' => e = .returned (.bool true) ∧ Mh V w' P M0 T x most seed R n d d0 d a a' := by
  have hf := h.kr.facts
  have := hf.1.wf.size
  refine (ris_gen h.kr hn h.dx (fun g hg => .inl hg) (by omega) what id tp tc ts an ai hTR htl htb).mono ?_
  rintro e w' hp
  exact h.prog hp
/-- The law's first state. -/
theorem Mm.begin_ (k : Kr V w (fun _ => False) x most seed R n ⟨[], [], []⟩) (m : Nat) (hM : w.heap.size = m) : Mm V (w.alloc (.cells #[.int .i64 most, .slice none 0 0, .slice none 0 0, .slice none 0 0] 35)) (fun _ => False) m x most seed R n ⟨[], [], []⟩ ⟨none, 0, none, 0, none, 0, []⟩ := by
  subst hM
  have hb := Blk.new w 35 #[.int .i64 most, .slice none 0 0, .slice none 0 0, .slice none 0 0]
  refine ⟨k.keep ((Below.refl _ _).alloc (Nat.le_refl _) _) (fun g hg => ?_), Dix.nil _ _, hb, fun g h => h.elim, k.bel.size⟩
  rcases hg with hg | hg
  · exact hg.elim
  · rw [hg]; exact .inr ⟨Nat.le_refl _, hb.lt⟩
theorem StrsAt.keep {V W W3 : World} {p : Option Addr} {cap : Nat} {ts : List (List UInt8)} (h : StrsAt V p cap ts) (hl : ts.length ≤ 100000) (hb : Below V.heap.size V W3) : Reads W3 (.slice p ts.length cap) (ts.map encStr) := (h.below hb).reads hl
end
theorem act_cells {W : World} {b o : Nat} {X : Ra} (h : ∀ j, j < 5 → W.cell? ⟨b, o + j, none⟩ = (racs X)[j]?) : W.cell? ⟨b, o, none⟩ = some (.int .i64 X.what) ∧ W.cell? ⟨b, o + 1, none⟩ = some (.int .u64 (X.id : Int)) ∧ W.cell? ⟨b, o + 2, none⟩ = some (.slice X.p X.ts.length X.cap) ∧ W.cell? ⟨b, o + 3, none⟩ = some (.int .i64 X.n) ∧ W.cell? ⟨b, o + 4, none⟩ = some (.int .i64 X.i) :=
  ⟨(h 0 (by decide)).trans rfl, (h 1 (by decide)).trans rfl, (h 2 (by decide)).trans rfl, (h 3 (by decide)).trans rfl, (h 4 (by decide)).trans rfl⟩
set_option maxHeartbeats 16000000 in
set_option maxRecDepth 100000 in
theorem rplays_good (most : Int) (h1 : 1 ≤ most) (h2 : most ≤ 65536) (q : Option Addr) (cap : Nat) (L : List Ra) (w : World) (hR : RActs w q L) (hfb : fewB L = true) :
    Calls Tryz.prog 5 #[.int .i64 most, .slice q L.length cap] w fun e w' => e = .returned (.bool true) ∧ Below w.heap.size w w' := by
  have hF := few_any q cap L w hR
  unfold FewP at hF
  rw [hfb] at hF
  have hf := fewB_yes hfb
  obtain ⟨N, hN⟩ : ∃ N, L.length = N := ⟨_, rfl⟩
  rw [hN] at hF ⊢
  have hN40 : N ≤ 40 := by rw [← hN]; exact hf.1
  have HF := Lib.hid hF
  have HR := Lib.hid hR
  have HL := Lib.hid hf.2
  have HN := Lib.hid hN
  clear hF hR hf hN hfb
  go_enter Tryz.func5, Tryz.ntmps5
  go_wp2_with (go_at_call 16; refine HF.out.mono ?_; rintro e w1 ⟨rfl, rfl⟩)
  refine (Kr.start w w (Below.refl _ _) most 9 h1 h2 (by decide) (by decide)).mono ?_
  rintro e w1 ⟨x, rfl, k1, hb1⟩
  have K1 := Lib.hid k1
  clear k1 hb1 HF
  go_upto_region 7 with (fail)
  obtain ⟨M0, hM0⟩ : ∃ M0, w1.heap.size = M0 := ⟨_, rfl⟩
  have MM := Lib.hid (Mm.begin_ K1.out M0 hM0)
  try simp only [hM0]
  clear hM0 K1
  generalize w1.alloc (.cells #[.int .i64 most, .slice none 0 0, .slice none 0 0, .slice none 0 0] 35) = W2 at *
  go_wp2_with fail
  go_loopg [5, 8] N (fun r s5 s8 wr => ∃ (k x : Nat) (P : Nat → Prop) (d : Dx) (a : Dp), r + k = N ∧ s5 = .pointer (some ⟨x, 0, none⟩) ∧ s8 = .int .i64 (k : Int) ∧ Mm w wr P M0 x most 9 ((16 * k : Nat) : Int) (17 * k) d a)
  case atStart => exact ⟨0, x, _, _, _, by omega, rfl, rfl, MM.out⟩
  case round =>
    clear MM
    obtain ⟨k, x, P, d, a, hk, rfl, rfl, hmm⟩ := hrel
    have HK := Lib.hid hk
    have MM := Lib.hid hmm
    have hkN : k ≤ N := by omega
    clear hk hmm
    by_cases hlt : k < N
    · obtain ⟨X, hX⟩ : ∃ X, L[k]? = some X := ⟨_, List.getElem?_eq_getElem (by rw [HN.out]; exact hlt)⟩
      have hXs := HL.out X (List.mem_of_getElem? hX)
      obtain ⟨hok, hst, blk, off, rfl, hbl, hc⟩ := HR.out k X hX
      have HC : Hid (∀ (W3 : World), Below w.heap.size w W3 → W3.cell? ⟨blk, off + k * 5, none⟩ = some (.int .i64 X.what) ∧ W3.cell? ⟨blk, off + k * 5 + 1, none⟩ = some (.int .u64 (X.id : Int)) ∧ W3.cell? ⟨blk, off + k * 5 + 2, none⟩ = some (.slice X.p X.ts.length X.cap) ∧ W3.cell? ⟨blk, off + k * 5 + 3, none⟩ = some (.int .i64 X.n) ∧ W3.cell? ⟨blk, off + k * 5 + 4, none⟩ = some (.int .i64 X.i)) := fun W3 hb =>
        act_cells (fun j hj => (hb.cell (p := ⟨blk, off + k * 5 + j, none⟩) hbl).trans (hc j hj))
      have HRD : Hid (∀ (W3 : World), Below w.heap.size w W3 → Reads W3 (.slice X.p X.ts.length X.cap) (X.ts.map encStr)) := fun W3 hb => (hst.below hb).reads (by have := hXs.1; omega)
      have hts : X.ts.length ≤ 20 := hXs.1
      have HTS : Hid (∀ s ∈ X.ts, s.length ≤ 1000) := fun s hs => Nat.le_trans (hXs.2 s hs) (by decide)
      have hidb : X.id ≤ 18446744073709551615 := hok.1
      obtain ⟨what, id, p, cp, ts, nn, ii⟩ := X
      simp only at HC HRD hts HTS hidb
      clear hX hXs hok hst hc hbl
      go_upto_region 10 with (fail)
      have HST : Hid (∀ (W3 : World), Below wr.heap.size wr W3 → Calls Tryz.prog 17 #[.pointer (some ⟨x, 0, none⟩), .agg #[.int .i64 most, .slice a.p d.nm.length a.c, .slice a.pA d.all.length a.cA, .slice a.pS d.sl.length a.cS], .agg #[.int .i64 what, .int .u64 (id : Int), .slice p ts.length cp, .int .i64 nn, .int .i64 ii]] W3 (fun e w' => ∃ d2, RStep w W3 (fun g => Nw wr W3 P g ∨ g = M0) P most 9 (((16 * k : Nat) : Int) + 16) (17 * k + 17) d2 e w')) := fun W3 hb => by
        have m3 := MM.out.keep hb
        exact rstep_any m3.kr (by omega) (by omega) (by omega) (MM.out.dx.below hb) (fun g hg => .inl (.inl hg)) what id hidb p cp ts nn ii (fun W4 ho => HRD.out W4 (m3.kr.bel.trans (ho.below (B := w.heap.size) (fun g hg => hg.2) m3.kr.bel.size))) hts
      go_cut [9, 10, 11] (fun s9 s10 s11 wx => ∃ (T x2 : Nat) (P6 : Nat → Prop) (d2 : Dx) (a2 : Dp), s9 = .pointer (some ⟨x2, 0, none⟩) ∧ s10 = .pointer (some ⟨T, 0, none⟩) ∧ s11 = .bool true ∧ Mh w wx P6 M0 T x2 most 9 (((16 * k : Nat) : Int) + 16) (17 * k + 17) d2 d d2 a a2)
      case first =>
        have hbd : Below wr.heap.size wr wr.drew := (Below.refl _ _).drew
        have hba : Below wr.heap.size wr (wr.drew.alloc (.cells #[.int .i64 0, .slice none 0 0, .slice none 0 0, .slice none 0 0] 35)) := hbd.alloc (Nat.le_refl _) _
        have hbb : Below wr.heap.size wr (wr.alloc (.cells #[.int .i64 0, .slice none 0 0, .slice none 0 0, .slice none 0 0] 35)) := (Below.refl _ _).alloc (Nat.le_refl _) _
        have MD := Lib.hid (MM.out.keep hbd)
        have MA := Lib.hid (MM.out.keep hba)
        have MB := Lib.hid (MM.out.keep hbb)
        have BZ : Hid (Blk (wr.drew.alloc (.cells #[.int .i64 0, .slice none 0 0, .slice none 0 0, .slice none 0 0] 35)) wr.heap.size 35 #[.int .i64 0, .slice none 0 0, .slice none 0 0, .slice none 0 0]) := Blk.new wr.drew _ _
        obtain ⟨c0, c1, c2, c3⟩ := blk4 MM.out.bm
        obtain ⟨d0, d1, d2, d3⟩ := blk4 MD.out.bm
        obtain ⟨u0, u1, u2, u3⟩ := blk4 MA.out.bm
        obtain ⟨v0, v1, v2, v3⟩ := blk4 MB.out.bm
        obtain ⟨e0, e1, e2, e3, e4⟩ := HC.out _ MM.out.kr.bel
        obtain ⟨f0, f1, f2, f3, f4⟩ := HC.out _ MD.out.kr.bel
        obtain ⟨g0, g1, g2, g3, g4⟩ := HC.out _ MA.out.kr.bel
        obtain ⟨i0, i1, i2, i3, i4⟩ := HC.out _ MB.out.kr.bel
        have hPT : Hid (¬ P wr.heap.size) := fun hp => Nat.lt_irrefl _ (MM.out.lt _ hp)
        have hNT : Hid (Nw wr (wr.drew.alloc (.cells #[.int .i64 0, .slice none 0 0, .slice none 0 0, .slice none 0 0] 35)) P wr.heap.size) := .inr ⟨Nat.le_refl _, BZ.out.lt⟩
        clear hbd hba hbb
        go_region_law (first
          | (go_simp; go_at_call 17; refine (HST.out _ (by first | exact (Below.refl _ _).drew | exact ((Below.refl _ _).drew).alloc (Nat.le_refl _) _)).mono ?_; rintro e w5 ⟨d2, x2, a2, P2, rfl, k5, d5, p5, o5⟩; have K5 := Lib.hid k5; have D5 := Lib.hid d5; have P5 := Lib.hid p5; have O5 := Lib.hid o5; (first
              | (have BZ5 : Blk w5 wr.heap.size 35 #[.int .i64 0, .slice none 0 0, .slice none 0 0, .slice none 0 0] := Blk.only BZ.out o5 (fun hs => hs.1 (.inl hNT.out)); obtain ⟨z0, z1, z2, z3⟩ := zer4 BZ5; obtain ⟨zf0, zf1, zf2, zf3⟩ := froz4 BZ5)
              | skip); clear k5 d5 p5 o5))
        all_goals go_wp2_with fail
        all_goals go_meet
        all_goals first
          | exact ⟨wr.heap.size, x2, _, d2, a2, rfl, rfl, rfl, MA.out.before K5.out D5.out P5.out O5.out hNT.out hPT.out (fun g hg => .inl hg) BZ.out⟩
          | exact ⟨w5.heap.size, x2, _, d2, a2, rfl, rfl, rfl, MD.out.after K5.out D5.out (fun g hg => (P5.out g hg).imp (fun h => .inl h) (fun h => h)) O5.out rfl⟩
      case rest =>
        obtain ⟨T, x2, P6, d2, a2, rfl, rfl, rfl, hmh⟩ := hcut
        have MH := Lib.hid hmh
        clear hmh MM HST
        have MN := Lib.hid (MH.out.below ((Below.refl _ _).drew : Below wc.heap.size wc wc.drew))
        obtain ⟨c0, c1, c2, c3⟩ := blk4 MN.out.bt
        obtain ⟨f0, f1, f2, f3, f4⟩ := HC.out _ MN.out.kr.bel
        obtain ⟨b0, b1, b2, b3⟩ := blk4 MH.out.bt
        obtain ⟨g0, g1, g2, g3, g4⟩ := HC.out _ MH.out.kr.bel
        have hIS := MN.out.isx (by omega) what id p cp ts nn ii (fun W4 ho => HRD.out W4 (MN.out.kr.bel.trans (ho.below (B := w.heap.size) (fun g hg => hg.2) MN.out.kr.bel.size))) (by omega) HTS.out
        unfold dixV dixCs at hIS
        have HIS := Lib.hid hIS
        clear hIS
        go_wp2_with fail
        refine wp_region_qtail 13 (by kernel_rfl) (by kernel_rfl) ?_
        simp only [List.take_succ_cons, List.take_zero, List.drop_succ_cons, List.drop_zero]
        repeat (go_big_quiet_step (fail))
        refine wpQuiet_nil ?_
        go_wp2_with fail
        refine HIS.out.mono ?_
        rintro e w6 ⟨rfl, mh6⟩
        have MH6 := Lib.hid mh6
        have MH7 := Lib.hid (mh6.below ((Below.refl _ _).drew : Below w6.heap.size w6 w6.drew))
        clear mh6 HIS MN MH c0 c1 c2 c3 f0 f1 f2 f3 f4 b0 b1 b2 b3 g0 g1 g2 g3 g4
        obtain ⟨c0, c1, c2, c3⟩ := blk4 MH6.out.bt
        obtain ⟨d0, d1, d2_, d3⟩ := blk4 MH7.out.bt
        obtain ⟨m0, m1, m2, m3⟩ := blk4 MH6.out.bm
        obtain ⟨u0, u1, u2, u3⟩ := blk4 MH7.out.bm
        obtain ⟨mf0, mf1, mf2, mf3⟩ := froz4 MH6.out.bm
        obtain ⟨uf0, uf1, uf2, uf3⟩ := froz4 MH7.out.bm
        have hTM : T ≠ M0 := (MH6.out.pv _ MH6.out.pt).2
        have hMT : M0 ≠ T := fun e => hTM e.symm
        go_wp2_with fail
        go_region
        go_wp2_with fail
        have MM8 := Lib.hid (MH6.out.store.mono (R' := ((16 * (k + 1) : Nat) : Int)) (n' := 17 * (k + 1)) (by omega) (by omega))
        go_roundg (N - (k + 1))
        case measure => have := HK.out; omega
        case rel => exact ⟨k + 1, x2, P6, d2, a2, by have := HK.out; omega, rfl, by go_num, MM8.out.below (Below.refl _ _).drew⟩
    · obtain rfl : N = k := by omega
      have hbel := MM.out.kr.bel
      have HBL := Lib.hid hbel
      clear hbel
      go_wp2_with fail
      refine (rknown_any _).mono ?_
      rintro e w3 ⟨rfl, b3⟩
      go_wp2_with fail
      go_ret
      exact ⟨rfl, HBL.out.trans (b3.mono HBL.out.size)⟩
set_option maxHeartbeats 4000000 in
set_option maxRecDepth 100000 in
theorem rplays_few (most : Int) (h1 : 1 ≤ most) (h2 : most ≤ 65536) (q : Option Addr) (cap : Nat) (L : List Ra) (w : World) (hR : RActs w q L) (hf : fewB L = false) :
    Calls Tryz.prog 5 #[.int .i64 most, .slice q L.length cap] w fun e w' => e = .returned (.bool true) ∧ Below w.heap.size w w' := by
  have hF := few_any q cap L w hR
  unfold FewP at hF
  rw [hf] at hF
  have HF := Lib.hid hF
  clear hF hR hf
  go_enter Tryz.func5, Tryz.ntmps5
  go_wp2_with (first
    | (go_at_call 16; refine HF.out.mono ?_; rintro e w1 ⟨rfl, rfl⟩)
    | (go_at_call 7; refine (rknown_any _).mono ?_; rintro e w1 ⟨rfl, b1⟩))
  go_ret
  exact ⟨rfl, b1⟩
set_option maxHeartbeats 4000000 in
set_option maxRecDepth 100000 in
theorem rplays_most (most : Int) (h : ¬ (1 ≤ most ∧ most ≤ 65536)) (q : Option Addr) (n cap : Nat) (w : World) :
    Calls Tryz.prog 5 #[.int .i64 most, .slice q n cap] w fun e w' => e = .returned (.bool true) ∧ Below w.heap.size w w' := by
  by_cases h1 : most < 1
  · clear h
    go_enter Tryz.func5, Tryz.ntmps5
    go_wp2_with (go_at_call 7; refine (rknown_any _).mono ?_; rintro e w1 ⟨rfl, b1⟩)
    go_ret
    exact ⟨rfl, b1⟩
  · have h2 : 65536 < most := by omega
    clear h
    go_enter Tryz.func5, Tryz.ntmps5
    go_wp2_with (go_at_call 7; refine (rknown_any _).mono ?_; rintro e w1 ⟨rfl, b1⟩)
    go_ret
    exact ⟨rfl, b1⟩
theorem rplays_walk (most : Int) (q : Option Addr) (cap : Nat) (L : List Ra) (w : World) (hR : RActs w q L) :
    Calls Tryz.prog 5 #[.int .i64 most, .slice q L.length cap] w fun e w' => e = .returned (.bool true) ∧ Below w.heap.size w w' := by
  by_cases h : 1 ≤ most ∧ most ≤ 65536
  · cases hf : fewB L with
    | true => exact rplays_good most h.1 h.2 q cap L w hR hf
    | false => exact rplays_few most h.1 h.2 q cap L w hR hf
  · exact rplays_most most h q L.length cap w
end Go.Proofs.YtfpkeinknhijaaaGreat
