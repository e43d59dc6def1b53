/- The document's Hard, Forget, and Full. -/
import Derived.Test.YtckdfnlleaifcaaStnA
namespace Go.Proofs.Ytckdfnlleaifcaa
set_option linter.unusedVariables false
open Go.RowKit Go.Maps Go.Sort

section
variable {w w' : World} {now last n5 c n6 : Nat} {q : Option Addr} {E : List Ev} {d : List Tg}
theorem know_hard {gr A n t : Nat} {d : List Tg} (hn : n ≠ 0) : knowT (normT gr A ⟨t, ⟨n, []⟩⟩) d = insT ⟨t, ⟨n, []⟩⟩ d := by
  unfold knowT
  rw [if_neg (fun e => hn e.1)]
  rfl
theorem know_del {gr A t : Nat} {d : List Tg} : knowT (normT gr A ⟨t, ⟨0, []⟩⟩) d = delT t d := by
  unfold knowT
  rw [if_pos ⟨rfl, rfl⟩]
  rfl
set_option maxHeartbeats 4000000 in
set_option maxRecDepth 100000 in
theorem Dok.hardd (h : Dok w now last q n5 c E d) (gr t : Nat) (ht : tagB (t : Int) = true) (hl : last < 18446744073709551615) (a : Nat) (ha : a ≤ 18446744073709551615) :
    Calls Try.prog 48 #[mV gr now last (.slice q n5 c), .int .i64 (t : Int), .int .u64 (a : Int)] w (NxP w gr (max now a) (last + 1) (hardD gr (max now a) (last + 1) t d).length (.slice q n5 c) E (hardD gr (max now a) (last + 1) t d) 0) := by
  have A0 := Lib.hid (Av.start (gr := gr) (now := now) (last := last) h.li h.ln h.un)
  have HT := Lib.hid h.lt
  have HA := Lib.hid ((h.below A0.out.bel).next gr hl a ha)
  have HG := Lib.hid (fun w' => rtag_any (t : Int) w')
  rw [ht] at HG
  have hup : TUp (advD gr (max now a) d) := map_up h.ok.up _ (fun _ => rfl)
  have HUP := Lib.hid hup
  have hsm := h.sm
  have hL : last + 1 ≠ 0 := by omega
  clear h hl ht hup
  obtain ⟨W, hW⟩ : ∃ W, W = (w.alloc (.cells #[.int .u64 (gr : Int), .int .u64 (now : Int), .int .u64 (last : Int), .slice q n5 c] 57)).alloc (.cells #[.int .u64 0, .int .u64 0, .int .u64 0, .slice none 0 0] 57) := ⟨_, rfl⟩
  rw [← hW] at A0 HA
  have HW := Lib.hid hW
  clear hW
  generalize last + 1 = L1 at *
  generalize max now a = A at *
  obtain ⟨d2, hd2⟩ : ∃ d2, d2 = hardD gr A L1 t d := ⟨_, rfl⟩
  have hkn : knowT (normT gr A ⟨t, ⟨L1, []⟩⟩) (advD gr A d) = d2 := by rw [know_hard hL, hd2]; rfl
  rw [← hd2]
  obtain ⟨n6, hn6⟩ : ∃ n6, n6 = d2.length := ⟨_, rfl⟩
  rw [← hn6]
  have HKN := Lib.hid hkn
  have HN6 := Lib.hid hn6
  clear hd2 hkn hn6 hL
  go_enter Try.func48, Try.ntmps48
  go_wp2_with (go_at_call 10; refine (HG.out _).mono ?_; rintro e w' ⟨rfl, rfl⟩)
  rw [← HW.out]
  refine HA.out.mono ?_
  rintro e w1 ⟨q1, c1, E1, rfl, hn1, hu1, dv1⟩
  have D2 := Lib.hid (dv1.below ((Below.refl w1.heap.size w1).alloc (Nat.le_refl _) (.cells #[.int .u64 (gr : Int), .int .u64 (A : Int), .int .u64 (L1 : Int), .slice q1 n5 c1] 57)))
  have HKW := Lib.hid (know_n (gr := gr) (now := A) (last := L1) D2.out.li hn1 hu1 HUP.out (by omega) ⟨t, ⟨L1, []⟩⟩ (RowAt.nil _ _) (Nat.zero_le _) (fun y hy => by cases hy) HKN.out HN6.out.symm)
  clear dv1 hn1 hu1 HA HW HG HUP HKN
  go_wp2_with fail
  refine HKW.out.mono ?_
  rintro e w3 ⟨q3, c3, E3, rfl, hn3, hu3, dv3⟩
  have D3 := Lib.hid (D2.out.trans dv3)
  have A3 := Lib.hid (A0.out.below D3.out.bel)
  have HN3 := Lib.hid hn3
  have HU3 := Lib.hid hu3
  have rf := A3.out.br.frozen
  obtain ⟨r0, r1, r2, r3⟩ := A3.out.rcells
  clear hn3 hu3 dv3 HKW D2
  go_wp2_with fail
  obtain ⟨hfin, e0, e1, e2, e3⟩ := A0.out.ret HT.out (gr2 := gr) (now2 := A) (last2 := L1) D3.out
  exact bodyPost_ret (v := .tuple #[mV gr A L1 (.slice q3 n6 c3), .int .i64 0]) (by simp [results, Try.results48, go_sem, e0, e1, e2, e3]) rfl ⟨q3, c3, E3, rfl, HN3.out, HU3.out, hfin⟩
set_option maxHeartbeats 4000000 in
set_option maxRecDepth 100000 in
theorem harddFull (gr now a t : Nat) (q : Option Addr) (n5 c : Nat) (w : World) (ht : tagB (t : Int) = true) :
    Calls Try.prog 48 #[mV gr now 18446744073709551615 (.slice q n5 c), .int .i64 (t : Int), .int .u64 (a : Int)] w (BadP w gr now 18446744073709551615 (.slice q n5 c) 7) := by
  have hb := ((Below.refl w.heap.size w).alloc (Nat.le_refl _) (.cells #[.int .u64 (gr : Int), .int .u64 (now : Int), .int .u64 18446744073709551615, .slice q n5 c] 57)).alloc (by simp) (.cells #[.int .u64 0, .int .u64 0, .int .u64 0, .slice none 0 0] 57)
  have hx := Blk.alloc (Blk.new w 57 #[.int .u64 (gr : Int), .int .u64 (now : Int), .int .u64 18446744073709551615, .slice q n5 c]) (.cells #[.int .u64 0, .int .u64 0, .int .u64 0, .slice none 0 0] 57)
  have hy : Blk ((w.alloc (.cells #[.int .u64 (gr : Int), .int .u64 (now : Int), .int .u64 18446744073709551615, .slice q n5 c] 57)).alloc (.cells #[.int .u64 0, .int .u64 0, .int .u64 0, .slice none 0 0] 57)) (w.heap.size + 1) 57 #[.int .u64 0, .int .u64 0, .int .u64 0, .slice none 0 0] := by simpa using Blk.new (w.alloc (.cells #[.int .u64 (gr : Int), .int .u64 (now : Int), .int .u64 18446744073709551615, .slice q n5 c] 57)) 57 #[.int .u64 0, .int .u64 0, .int .u64 0, .slice none 0 0]
  have HB := Lib.hid hb
  have HX := Lib.hid hx
  have HY := Lib.hid hy
  have HA := Lib.hid (nextFull gr now a q n5 c ((w.alloc (.cells #[.int .u64 (gr : Int), .int .u64 (now : Int), .int .u64 18446744073709551615, .slice q n5 c] 57)).alloc (.cells #[.int .u64 0, .int .u64 0, .int .u64 0, .slice none 0 0] 57)))
  have HG := Lib.hid (fun w' => rtag_any (t : Int) w')
  rw [ht] at HG
  clear ht hb hx hy
  go_enter Try.func48, Try.ntmps48
  go_wp2_with (go_at_call 10; refine (HG.out _).mono ?_; rintro e w' ⟨rfl, rfl⟩)
  refine HA.out.mono ?_
  rintro e w1 ⟨rfl, b1⟩
  have hx1 := Blk.alloc (HX.out.below b1 HX.out.lt) (.cells #[.int .u64 (gr : Int), .int .u64 (now : Int), .int .u64 18446744073709551615, .slice q n5 c] 57)
  have hy1 := Blk.alloc (HY.out.below b1 HY.out.lt) (.cells #[.int .u64 (gr : Int), .int .u64 (now : Int), .int .u64 18446744073709551615, .slice q n5 c] 57)
  have hb1 := (HB.out.trans (b1.mono HB.out.size)).alloc (by have := HB.out.size; have := b1.size; omega) (.cells #[.int .u64 (gr : Int), .int .u64 (now : Int), .int .u64 18446744073709551615, .slice q n5 c] 57)
  have k0 := hx1.cell 0
  have k1 := hx1.cell 1
  have k2 := hx1.cell 2
  have k3 := hx1.cell 3
  have r0 := hy1.cell 0
  have r1 := hy1.cell 1
  have r2 := hy1.cell 2
  have r3 := hy1.cell 3
  have rf := hy1.frozen
  simp only [List.getElem?_toArray, List.getElem?_cons_zero, List.getElem?_cons_succ] at k0 k1 k2 k3 r0 r1 r2 r3
  have HB1 := Lib.hid hb1
  have HY1 := Lib.hid hy1
  clear hx1 hy1 hb1 b1 HA HX HY HB
  go_wp2_with fail
  have zz := (((HY1.out.set_ 0 (.int .u64 (gr : Int))).set_ 1 (.int .u64 (now : Int))).set_ 2 (.int .u64 18446744073709551615)).set_ 3 (.slice q n5 c)
  have e0 := zz.cell 0
  have e1 := zz.cell 1
  have e2 := zz.cell 2
  have e3 := zz.cell 3
  simp only [List.setIfInBounds_toArray, List.set_cons_zero, List.set_cons_succ, List.getElem?_toArray, List.getElem?_cons_zero, List.getElem?_cons_succ] at e0 e1 e2 e3
  have hfin := (((HB1.out.setCell (p := ⟨w.heap.size + 1, 0, none⟩) (by simp) (.int .u64 (gr : Int))).setCell (p := ⟨w.heap.size + 1, 1, none⟩) (by simp) (.int .u64 (now : Int))).setCell (p := ⟨w.heap.size + 1, 2, none⟩) (by simp) (.int .u64 18446744073709551615)).setCell (p := ⟨w.heap.size + 1, 3, none⟩) (by simp) (.slice q n5 c)
  exact bodyPost_ret (v := .tuple #[mV gr now 18446744073709551615 (.slice q n5 c), .int .i64 7]) (by simp [results, Try.results48, go_sem, e0, e1, e2, e3]) rfl ⟨rfl, hfin⟩
set_option maxHeartbeats 4000000 in
set_option maxRecDepth 100000 in
theorem softdFull (gr now a t : Nat) (q : Option Addr) (n5 c : Nat) (w : World) (ht : tagB (t : Int) = true) :
    Calls Try.prog 49 #[mV gr now 18446744073709551615 (.slice q n5 c), .int .i64 (t : Int), .int .u64 (a : Int)] w (BadP w gr now 18446744073709551615 (.slice q n5 c) 7) := by
  have hb := ((Below.refl w.heap.size w).alloc (Nat.le_refl _) (.cells #[.int .u64 (gr : Int), .int .u64 (now : Int), .int .u64 18446744073709551615, .slice q n5 c] 57)).alloc (by simp) (.cells #[.int .u64 0, .int .u64 0, .int .u64 0, .slice none 0 0] 57)
  have hx := Blk.alloc (Blk.new w 57 #[.int .u64 (gr : Int), .int .u64 (now : Int), .int .u64 18446744073709551615, .slice q n5 c]) (.cells #[.int .u64 0, .int .u64 0, .int .u64 0, .slice none 0 0] 57)
  have hy : Blk ((w.alloc (.cells #[.int .u64 (gr : Int), .int .u64 (now : Int), .int .u64 18446744073709551615, .slice q n5 c] 57)).alloc (.cells #[.int .u64 0, .int .u64 0, .int .u64 0, .slice none 0 0] 57)) (w.heap.size + 1) 57 #[.int .u64 0, .int .u64 0, .int .u64 0, .slice none 0 0] := by simpa using Blk.new (w.alloc (.cells #[.int .u64 (gr : Int), .int .u64 (now : Int), .int .u64 18446744073709551615, .slice q n5 c] 57)) 57 #[.int .u64 0, .int .u64 0, .int .u64 0, .slice none 0 0]
  have HB := Lib.hid hb
  have HX := Lib.hid hx
  have HY := Lib.hid hy
  have HA := Lib.hid (nextFull gr now a q n5 c ((w.alloc (.cells #[.int .u64 (gr : Int), .int .u64 (now : Int), .int .u64 18446744073709551615, .slice q n5 c] 57)).alloc (.cells #[.int .u64 0, .int .u64 0, .int .u64 0, .slice none 0 0] 57)))
  have HG := Lib.hid (fun w' => rtag_any (t : Int) w')
  rw [ht] at HG
  clear ht hb hx hy
  go_enter Try.func49, Try.ntmps49
  go_wp2_with (go_at_call 10; refine (HG.out _).mono ?_; rintro e w' ⟨rfl, rfl⟩)
  refine HA.out.mono ?_
  rintro e w1 ⟨rfl, b1⟩
  have hx1 := Blk.alloc (HX.out.below b1 HX.out.lt) (.cells #[.int .u64 (gr : Int), .int .u64 (now : Int), .int .u64 18446744073709551615, .slice q n5 c] 57)
  have hy1 := Blk.alloc (HY.out.below b1 HY.out.lt) (.cells #[.int .u64 (gr : Int), .int .u64 (now : Int), .int .u64 18446744073709551615, .slice q n5 c] 57)
  have hb1 := (HB.out.trans (b1.mono HB.out.size)).alloc (by have := HB.out.size; have := b1.size; omega) (.cells #[.int .u64 (gr : Int), .int .u64 (now : Int), .int .u64 18446744073709551615, .slice q n5 c] 57)
  have k0 := hx1.cell 0
  have k1 := hx1.cell 1
  have k2 := hx1.cell 2
  have k3 := hx1.cell 3
  have r0 := hy1.cell 0
  have r1 := hy1.cell 1
  have r2 := hy1.cell 2
  have r3 := hy1.cell 3
  have rf := hy1.frozen
  simp only [List.getElem?_toArray, List.getElem?_cons_zero, List.getElem?_cons_succ] at k0 k1 k2 k3 r0 r1 r2 r3
  have HB1 := Lib.hid hb1
  have HY1 := Lib.hid hy1
  clear hx1 hy1 hb1 b1 HA HX HY HB
  go_wp2_with fail
  have zz := (((HY1.out.set_ 0 (.int .u64 (gr : Int))).set_ 1 (.int .u64 (now : Int))).set_ 2 (.int .u64 18446744073709551615)).set_ 3 (.slice q n5 c)
  have e0 := zz.cell 0
  have e1 := zz.cell 1
  have e2 := zz.cell 2
  have e3 := zz.cell 3
  simp only [List.setIfInBounds_toArray, List.set_cons_zero, List.set_cons_succ, List.getElem?_toArray, List.getElem?_cons_zero, List.getElem?_cons_succ] at e0 e1 e2 e3
  have hfin := (((HB1.out.setCell (p := ⟨w.heap.size + 1, 0, none⟩) (by simp) (.int .u64 (gr : Int))).setCell (p := ⟨w.heap.size + 1, 1, none⟩) (by simp) (.int .u64 (now : Int))).setCell (p := ⟨w.heap.size + 1, 2, none⟩) (by simp) (.int .u64 18446744073709551615)).setCell (p := ⟨w.heap.size + 1, 3, none⟩) (by simp) (.slice q n5 c)
  exact bodyPost_ret (v := .tuple #[mV gr now 18446744073709551615 (.slice q n5 c), .int .i64 7]) (by simp [results, Try.results49, go_sem, e0, e1, e2, e3]) rfl ⟨rfl, hfin⟩
/-- Forget's result. -/
def FgdP (w : World) (gr now last t : Nat) (q : Option Addr) (n5 c : Nat) (E : List Ev) (d : List Tg) (e : Ending) (w' : World) : Prop :=
  ∃ n6, NxP w gr now last n6 (.slice q n5 c) E (delT t d) (fgE t d) e w'
set_option maxHeartbeats 4000000 in
set_option maxRecDepth 100000 in
theorem Dok.forgetd (h : Dok w now last q n5 c E d) (gr t : Nat) (ht : tagB (t : Int) = true) :
    Calls Try.prog 51 #[mV gr now last (.slice q n5 c), .int .i64 (t : Int)] w (FgdP w gr now last t q n5 c E d) := by
  have A0 := Lib.hid (Av.start (gr := gr) (now := now) (last := last) h.li h.ln h.un)
  have HT := Lib.hid h.lt
  have hW0 := h.below A0.out.bel
  have HF := Lib.hid (rfind_any hW0.li (by rw [hW0.un]; exact hW0.ok.up) (gr : Int) (now : Int) (last : Int) t)
  have HG := Lib.hid (fun w' => rtag_any (t : Int) w')
  rw [ht] at HG
  have HK := Lib.hid h
  clear h ht hW0
  obtain ⟨W, hW⟩ : ∃ W, W = (w.alloc (.cells #[.int .u64 (gr : Int), .int .u64 (now : Int), .int .u64 (last : Int), .slice q n5 c] 57)).alloc (.cells #[.int .u64 0, .int .u64 0, .int .u64 0, .slice none 0 0] 57) := ⟨_, rfl⟩
  rw [← hW] at A0 HF
  have HW := Lib.hid hW
  clear hW
  go_enter Try.func51, Try.ntmps51
  go_wp2_with (go_at_call 10; refine (HG.out _).mono ?_; rintro e w' ⟨rfl, rfl⟩)
  rw [← HW.out]
  refine HF.out.mono ?_
  rintro e w1 ⟨b1, hc⟩
  have A1 := Lib.hid (A0.out.below b1)
  have K1 := Lib.hid ((HK.out.below A0.out.bel).below b1)
  obtain ⟨k0, k1, k2, k3⟩ := A1.out.cells
  clear A0 HF HG HW b1
  rcases hc with ⟨rfl, hg⟩ | ⟨i, ev, rfl, hev, hg⟩
  · have HGN : Hid (getT t d = none) := by unfold Hid; rw [← HK.out.un]; exact hg
    clear hg
    have rf := A1.out.br.frozen
    obtain ⟨r0, r1, r2, r3⟩ := A1.out.rcells
    go_wp2_with fail
    obtain ⟨hfin, e0, e1, e2, e3⟩ := A1.out.ret HT.out (gr2 := gr) (now2 := now) (last2 := last) A1.out.self
    have hr : fgE t d = 9 := by unfold fgE; rw [HGN.out]; rfl
    exact bodyPost_ret (v := .tuple #[mV gr now last (.slice q n5 c), .int .i64 9]) (by simp [results, Try.results51, go_sem, e0, e1, e2, e3]) rfl ⟨n5, q, c, E, by rw [hr], A1.out.ln, by rw [delT_none HGN.out]; exact A1.out.un, hfin⟩
  · have hr : Hid (fgE t d = 0) := by unfold Hid fgE; rw [← HK.out.un, hg]; rfl
    clear hg hev
    have HN6 : Hid ((delT t d).length = (delT t d).length) := rfl
    have HKW := Lib.hid (know_n (gr := gr) (now := now) (last := last) K1.out.li K1.out.ln K1.out.un K1.out.ok.up (by have := K1.out.sm; omega) ⟨t, ⟨0, []⟩⟩ (RowAt.nil _ _) (Nat.zero_le _) (fun y hy => by cases hy) know_del HN6.out)
    generalize (delT t d).length = n6 at HKW
    clear K1 HN6
    go_wp2_with fail
    refine HKW.out.mono ?_
    rintro e w3 ⟨q3, c3, E3, rfl, hn3, hu3, dv3⟩
    have D3 := Lib.hid dv3
    have A3 := Lib.hid (A1.out.below D3.out.bel)
    have HN3 := Lib.hid hn3
    have HU3 := Lib.hid hu3
    have rf := A3.out.br.frozen
    obtain ⟨r0, r1, r2, r3⟩ := A3.out.rcells
    clear hn3 hu3 dv3 HKW k0 k1 k2 k3
    go_wp2_with fail
    obtain ⟨hfin, e0, e1, e2, e3⟩ := A1.out.ret HT.out (gr2 := gr) (now2 := now) (last2 := last) D3.out
    exact bodyPost_ret (v := .tuple #[mV gr now last (.slice q3 n6 c3), .int .i64 0]) (by simp [results, Try.results51, go_sem, e0, e1, e2, e3]) rfl ⟨n6, q3, c3, E3, by rw [hr.out], HN3.out, HU3.out, hfin⟩
end
end Go.Proofs.Ytckdfnlleaifcaa
