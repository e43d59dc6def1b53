/- The law's step: the purges. -/
import Derived.Test.YtckdfnlleaifcaaStnI
namespace Go.Proofs.Ytckdfnlleaifcaa
set_option linter.unusedVariables false
open Go.RowKit Go.Maps Go.Sort

set_option maxHeartbeats 8000000 in
set_option maxRecDepth 100000 in
theorem step_other {w : World} {g gr now last n n5 c : Nat} {q : Option Addr} {E : List Ev} {d : List Tg} {O : Nat → Prop} (h : Syn w g gr now last n q n5 c E d O) (hn : n ≤ 98000) (t : Int) (hl : last < 18446744073709551615) (a : Nat) (ha : a ≤ 18446744073709551615) :
    Calls Try.prog 31 #[.pointer (some ⟨g, 0, none⟩), mV gr now last (.slice q n5 c), .agg #[.int .i64 2, .int .i64 t, .int .u64 (a : Int)]] w (StepP w O gr last n (.slice q n5 c) E) := by
  obtain ⟨hx, hb⟩ := Sx.start w gr now last (.slice q n5 c) 2 t a
  have SX := Lib.hid hx
  have HB := Lib.hid hb
  have HS := Lib.hid h
  have S0 := Lib.hid (h.below hb)
  have hOlt := Lib.hid (fun x (hx : O x) => h.st.lt hx)
  have hwl := hx.br.lt
  clear hx hb h
  have HO1 := Lib.hid ((S0.out.dok hn).other gr hl a ha)
  obtain ⟨W, hW⟩ : ∃ W, W = (((w.alloc (.cells #[.int .u64 (gr : Int), .int .u64 (now : Int), .int .u64 (last : Int), .slice q n5 c] 57)).alloc (.cells #[.int .i64 2, .int .i64 t, .int .u64 (a : Int)] 34)).alloc (.cells #[.int .u64 0, .int .u64 0, .int .u64 0, .slice none 0 0] 57)) := ⟨_, rfl⟩
  rw [← hW] at SX HB S0 HO1 hwl
  have HW := Lib.hid hW
  clear hW
  obtain ⟨L1, hL1⟩ : ∃ L1, L1 = last + 1 := ⟨_, rfl⟩
  obtain ⟨A, hA⟩ : ∃ A, A = max now a := ⟨_, rfl⟩
  have hnA : now ≤ A := by omega
  have hlk := HS.out.st.lok.1
  have HIV := Lib.hid (HS.out.iv.adv hlk gr A)
  rw [← hA, ← hL1] at HO1
  have HCL := Lib.hid (fun (w' : World) (hs : St w' g gr now last n d O) => calls_ok hs 2 t (by unfold callOk; simp) hl a ha (by omega))
  have hcd : callD 2 t gr A L1 d = advD gr A d := rfl
  simp only [← hA, ← hL1] at HCL
  rw [hcd] at HCL
  have HL1 := Lib.hid hL1
  clear hA hL1 hcd hl hnA hlk
  go_enter Try.func31, Try.ntmps31
  go_wp2_with fail
  rw [← HW.out]
  refine HO1.out.mono ?_
  rintro e w1 ⟨q1, c1, E1, rfl, hn1, hu1, dv1⟩
  have hwl1 := dv1.bel.size
  have hb2 := (Below.refl w1.heap.size w1).alloc (Nat.le_refl _) (.cells #[.int .u64 (gr : Int), .int .u64 (A : Int), .int .u64 (L1 : Int), .slice q1 n5 c1] 57)
  have hbW2 := dv1.bel.trans (hb2.mono hwl1)
  have SX1 := Lib.hid (SX.out.below hbW2)
  have NB := Lib.hid (Blk.new w1 57 #[.int .u64 (gr : Int), .int .u64 (A : Int), .int .u64 (L1 : Int), .slice q1 n5 c1])
  have S2 := Lib.hid (S0.out.below hbW2)
  have HB2 := Lib.hid hbW2
  have DV := Lib.hid (dv1.below hb2)
  have HN1 := Lib.hid hn1
  have HU1 := Lib.hid hu1
  obtain ⟨⟨c0, c1x, c2, c3⟩, ⟨a0, a1, a2⟩, _⟩ := SX1.out.cells
  have cells1 := SX1.out.bm.lt
  clear dv1 hn1 hu1 hb2 hbW2 HO1 HW
  have ST3 := Lib.hid S2.out.st
  go_wp2_with fail
  obtain ⟨N, hN⟩ : ∃ N, w1.heap.size = N := ⟨_, rfl⟩
  rw [hN] at NB
  simp only [hN]
  have HNE := Lib.hid hN
  clear hN c0 c1x c2 c3 a0 a1 a2
  generalize w1.alloc (.cells #[.int .u64 (gr : Int), .int .u64 (A : Int), .int .u64 (L1 : Int), .slice q1 n5 c1] 57) = W3 at *
  have SX3 := SX1
  have N3 := NB
  refine (HCL.out _ ST3.out).mono ?_
  rintro e w4 ⟨rfl, O2, s4, g4⟩
  have S4 := Lib.hid s4
  have G4 := Lib.hid g4
  have SX4 := Lib.hid (SX3.out.only g4.only (fun x hx => .inl (hOlt.out x hx)))
  have N4 := Lib.hid (N3.out.only g4.only (fun hx => by have := hOlt.out _ hx; have := HNE.out; omega))
  clear s4 g4
  have D4 := Lib.hid (SX4.out.below ((Below.refl _ _).drew : Below w4.heap.size w4 w4.drew))
  have NN4 := Lib.hid (N4.out.drewN 1)
  obtain ⟨_, _, ⟨u0, u1, u2, u3⟩⟩ := SX4.out.cells
  have uf := SX4.out.br.frozen
  obtain ⟨y0, y1, y2, y3⟩ := ncells N4.out
  obtain ⟨_, _, ⟨r0, r1, r2, r3⟩⟩ := D4.out.cells
  have rf := D4.out.br.frozen
  obtain ⟨z0, z1, z2, z3⟩ := ncells NN4.out
  have hNR : ¬ N = w.heap.size + 2 := by have := HNE.out; omega
  have hRN : ¬ w.heap.size + 2 = N := by have := HNE.out; omega
  go_wp2_with fail
  go_region_law (first
    | (go_simp; go_at_call 14; refine (gives_same _ _ _).mono ?_; rintro e w5 ⟨rfl, rfl⟩))
  all_goals
    go_wp2_with fail
    obtain ⟨ho, e0, e1, e2, e3⟩ := D4.out.ret (gr : Int) (A : Int) (L1 : Int) (.slice q1 n5 c1)
    obtain ⟨_, e0, e1, e2, e3⟩ := SX4.out.ret (gr : Int) (A : Int) (L1 : Int) (.slice q1 n5 c1)
    obtain ⟨f1, f2⟩ := HS.out.go (w3 := _) HB.out DV.out HN1.out HU1.out (S4.out.below ((Below.refl _ _).drew : Below w4.heap.size w4 w4.drew)) (⟨G4.out.only.trans (Only.of_below ((Below.refl _ _).drew : Below w4.heap.size w4 w4.drew) (fun _ => False)) (fun _ h => h.elim), G4.out.new⟩ : Goes W3 O w4.drew O2) HIV.out (ho.more (fun x hx => .inl ⟨hx.1, by omega⟩))
    exact bodyPost_ret (v := .tuple #[.pointer (some ⟨g, 0, none⟩), mV (gr : Int) (A : Int) (L1 : Int) (.slice q1 n5 c1), .bool true]) (by simp [results, Try.results31, go_sem, e0, e1, e2, e3]) rfl ⟨g, A, L1, (n + 1), q1, n5, c1, E1, _, O2, rfl, f1, f2, (by have := HL1.out; omega), (Nat.le_refl _)⟩
set_option maxHeartbeats 8000000 in
set_option maxRecDepth 100000 in
theorem step_hard {w : World} {g gr now last n n5 c : Nat} {q : Option Addr} {E : List Ev} {d : List Tg} {O : Nat → Prop} (h : Syn w g gr now last n q n5 c E d O) (hn : n ≤ 98000) (t : Nat) (ht : tagB (t : Int) = true) (hl : last < 18446744073709551615) (a : Nat) (ha : a ≤ 18446744073709551615) :
    Calls Try.prog 31 #[.pointer (some ⟨g, 0, none⟩), mV gr now last (.slice q n5 c), .agg #[.int .i64 0, .int .i64 (t : Int), .int .u64 (a : Int)]] w (StepP w O gr last n (.slice q n5 c) E) := by
  obtain ⟨hx, hb⟩ := Sx.start w gr now last (.slice q n5 c) 0 (t : Int) a
  have SX := Lib.hid hx
  have HB := Lib.hid hb
  have HS := Lib.hid h
  have S0 := Lib.hid (h.below hb)
  have hOlt := Lib.hid (fun x (hx : O x) => h.st.lt hx)
  have hwl := hx.br.lt
  clear hx hb h
  have HO1 := Lib.hid ((S0.out.dok hn).other gr hl a ha)
  obtain ⟨W, hW⟩ : ∃ W, W = (((w.alloc (.cells #[.int .u64 (gr : Int), .int .u64 (now : Int), .int .u64 (last : Int), .slice q n5 c] 57)).alloc (.cells #[.int .i64 0, .int .i64 (t : Int), .int .u64 (a : Int)] 34)).alloc (.cells #[.int .u64 0, .int .u64 0, .int .u64 0, .slice none 0 0] 57)) := ⟨_, rfl⟩
  rw [← hW] at SX HB S0 HO1 hwl
  have HW := Lib.hid hW
  clear hW
  obtain ⟨L1, hL1⟩ : ∃ L1, L1 = last + 1 := ⟨_, rfl⟩
  obtain ⟨A, hA⟩ : ∃ A, A = max now a := ⟨_, rfl⟩
  have hnA : now ≤ A := by omega
  have hlk := HS.out.st.lok.1
  have HIV := Lib.hid (HS.out.iv.hard hlk hnA gr t)
  obtain ⟨d2, hd2⟩ : ∃ d2, d2 = hardD gr A (last + 1) t d := ⟨_, rfl⟩
  rw [← hd2] at HIV
  have HD := Lib.hid (fun (w' : World) (hb : Below W.heap.size W w') => ((S0.out.below hb).dok hn).hardd gr t ht hl a ha)
  rw [← hA, ← hL1] at HO1
  simp only [← hA, ← hL1] at HD
  rw [← hL1] at hd2
  rw [← hd2] at HD
  obtain ⟨n6, hn6⟩ : ∃ n6, n6 = d2.length := ⟨_, rfl⟩
  rw [← hn6] at HD
  have HCL := Lib.hid (fun (w' : World) (hs : St w' g gr now last n d O) => calls_ok hs 0 (t : Int) (by unfold callOk; rw [ht]; rfl) hl a ha (by omega))
  have hcd : callD 0 (t : Int) gr A L1 d = d2 := by rw [hd2]; rfl
  simp only [← hA, ← hL1] at HCL
  rw [hcd] at HCL
  have HL1 := Lib.hid hL1
  clear hd2 hn6 hA hL1 hcd ht hl hnA hlk
  go_enter Try.func31, Try.ntmps31
  go_wp2_with fail
  rw [← HW.out]
  refine HO1.out.mono ?_
  rintro e w1 ⟨q1, c1, E1, rfl, hn1, hu1, dv1⟩
  have hwl1 := dv1.bel.size
  have hb2 := (Below.refl w1.heap.size w1).alloc (Nat.le_refl _) (.cells #[.int .u64 (gr : Int), .int .u64 (A : Int), .int .u64 (L1 : Int), .slice q1 n5 c1] 57)
  have hbW2 := dv1.bel.trans (hb2.mono hwl1)
  have SX1 := Lib.hid (SX.out.below hbW2)
  have NB := Lib.hid (Blk.new w1 57 #[.int .u64 (gr : Int), .int .u64 (A : Int), .int .u64 (L1 : Int), .slice q1 n5 c1])
  have S2 := Lib.hid (S0.out.below hbW2)
  have HB2 := Lib.hid hbW2
  obtain ⟨⟨c0, c1x, c2, c3⟩, ⟨a0, a1, a2⟩, _⟩ := SX1.out.cells
  have cells1 := SX1.out.bm.lt
  clear dv1 hn1 hu1 hb2 hbW2 HO1 HW
  go_wp2_with fail
  obtain ⟨N, hN⟩ : ∃ N, w1.heap.size = N := ⟨_, rfl⟩
  rw [hN] at NB
  simp only [hN]
  have HNE := Lib.hid hN
  clear hN
  generalize w1.alloc (.cells #[.int .u64 (gr : Int), .int .u64 (A : Int), .int .u64 (L1 : Int), .slice q1 n5 c1] 57) = W2 at *
  refine (HD.out _ HB2.out).mono ?_
  rintro e w2 ⟨q2, c2', E2, rfl, hn2, hu2, dv2⟩
  have hbw := dv2.bel
  have SX2 := SX1.out.below hbw
  have N2 := NB.out.below hbw NB.out.lt
  have hNl := NB.out.lt
  have hoN : Only (fun x => x = N) w2 ((((w2.setCell ⟨N, 0, none⟩ (.int .u64 (gr : Int))).setCell ⟨N, 1, none⟩ (.int .u64 (A : Int))).setCell ⟨N, 2, none⟩ (.int .u64 (L1 : Int))).setCell ⟨N, 3, none⟩ (.slice q2 n6 c2')) := ((((Only.refl (fun x => x = N) w2).setCell1 (g := N) (.inl rfl) 0 (.int .u64 (gr : Int))).setCell1 (g := N) (.inl rfl) 1 (.int .u64 (A : Int))).setCell1 (g := N) (.inl rfl) 2 (.int .u64 (L1 : Int))).setCell1 (g := N) (.inl rfl) 3 (.slice q2 n6 c2')
  have N3 : Hid (Blk ((((w2.setCell ⟨N, 0, none⟩ (.int .u64 (gr : Int))).setCell ⟨N, 1, none⟩ (.int .u64 (A : Int))).setCell ⟨N, 2, none⟩ (.int .u64 (L1 : Int))).setCell ⟨N, 3, none⟩ (.slice q2 n6 c2')) N 57 #[.int .u64 (gr : Int), .int .u64 (A : Int), .int .u64 (L1 : Int), .slice q2 n6 c2']) := by
    have := (((N2.set_ 0 (.int .u64 (gr : Int))).set_ 1 (.int .u64 (A : Int))).set_ 2 (.int .u64 (L1 : Int))).set_ 3 (.slice q2 n6 c2')
    simp only [List.setIfInBounds_toArray, List.set_cons_zero, List.set_cons_succ] at this
    exact this
  have SX3 := Lib.hid (SX2.only hoN (fun x hx => .inr (by have := HNE.out; omega)))
  have DV := Lib.hid (DocV.far HB2.out dv2 S0.out.lt (hoN.more (fun x hx => .inl (by have := HNE.out; omega))))
  have ST3 := Lib.hid ((S2.out.st.below hbw).other hoN (fun x hx e => by have := hOlt.out x hx; have := HNE.out; omega))
  have HN1 := Lib.hid hn2
  have HU1 := Lib.hid hu2
  obtain ⟨⟨k0, k1, k2, k3⟩, ⟨m0, m1, m2⟩, _⟩ := SX2.cells
  obtain ⟨p0, p1, p2, p3⟩ := ncells N2
  have nf := N2.frozen
  have hNA : ¬ N = w.heap.size + 1 := by have := HNE.out; omega
  have hAN : ¬ w.heap.size + 1 = N := by have := HNE.out; omega
  clear c0 c1x c2 c3 a0 a1 a2 dv2 hn2 hu2 hbw hoN SX2 N2 HD
  go_upto_region 10 with (fail)
  clear k0 k1 k2 k3 m0 m1 m2 p0 p1 p2 p3 nf
  generalize (((w2.setCell ⟨N, 0, none⟩ (.int .u64 (gr : Int))).setCell ⟨N, 1, none⟩ (.int .u64 (A : Int))).setCell ⟨N, 2, none⟩ (.int .u64 (L1 : Int))).setCell ⟨N, 3, none⟩ (.slice q2 n6 c2') = W3 at *
  obtain ⟨_, ⟨m0, m1, m2⟩, _⟩ := SX3.out.cells
  go_wp2_with fail
  refine (HCL.out _ ST3.out).mono ?_
  rintro e w4 ⟨rfl, O2, s4, g4⟩
  have S4 := Lib.hid s4
  have G4 := Lib.hid g4
  have SX4 := Lib.hid (SX3.out.only g4.only (fun x hx => .inl (hOlt.out x hx)))
  have N4 := Lib.hid (N3.out.only g4.only (fun hx => by have := hOlt.out _ hx; have := HNE.out; omega))
  clear s4 g4
  have D4 := Lib.hid (SX4.out.below ((Below.refl _ _).drew : Below w4.heap.size w4 w4.drew))
  have NN4 := Lib.hid (N4.out.drewN 1)
  obtain ⟨_, _, ⟨u0, u1, u2, u3⟩⟩ := SX4.out.cells
  have uf := SX4.out.br.frozen
  obtain ⟨y0, y1, y2, y3⟩ := ncells N4.out
  obtain ⟨_, _, ⟨r0, r1, r2, r3⟩⟩ := D4.out.cells
  have rf := D4.out.br.frozen
  obtain ⟨z0, z1, z2, z3⟩ := ncells NN4.out
  have hNR : ¬ N = w.heap.size + 2 := by have := HNE.out; omega
  have hRN : ¬ w.heap.size + 2 = N := by have := HNE.out; omega
  go_wp2_with fail
  go_region_law (first
    | (go_simp; go_at_call 14; refine (gives_same _ _ _).mono ?_; rintro e w5 ⟨rfl, rfl⟩))
  all_goals
    go_wp2_with fail
    obtain ⟨ho, e0, e1, e2, e3⟩ := D4.out.ret (gr : Int) (A : Int) (L1 : Int) (.slice q2 n6 c2')
    obtain ⟨_, e0, e1, e2, e3⟩ := SX4.out.ret (gr : Int) (A : Int) (L1 : Int) (.slice q2 n6 c2')
    obtain ⟨f1, f2⟩ := HS.out.go (w3 := _) HB.out DV.out HN1.out HU1.out (S4.out.below ((Below.refl _ _).drew : Below w4.heap.size w4 w4.drew)) (⟨G4.out.only.trans (Only.of_below ((Below.refl _ _).drew : Below w4.heap.size w4 w4.drew) (fun _ => False)) (fun _ h => h.elim), G4.out.new⟩ : Goes W3 O w4.drew O2) HIV.out (ho.more (fun x hx => .inl ⟨hx.1, by omega⟩))
    exact bodyPost_ret (v := .tuple #[.pointer (some ⟨g, 0, none⟩), mV (gr : Int) (A : Int) (L1 : Int) (.slice q2 n6 c2'), .bool true]) (by simp [results, Try.results31, go_sem, e0, e1, e2, e3]) rfl ⟨g, A, L1, (n + 1), q2, n6, c2', E2, _, O2, rfl, f1, f2, (by have := HL1.out; omega), (Nat.le_refl _)⟩
set_option maxHeartbeats 8000000 in
set_option maxRecDepth 100000 in
theorem step_soft {w : World} {g gr now last n n5 c : Nat} {q : Option Addr} {E : List Ev} {d : List Tg} {O : Nat → Prop} (h : Syn w g gr now last n q n5 c E d O) (hn : n ≤ 98000) (t : Nat) (ht : tagB (t : Int) = true) (hl : last < 18446744073709551615) (a : Nat) (ha : a ≤ 18446744073709551615) :
    Calls Try.prog 31 #[.pointer (some ⟨g, 0, none⟩), mV gr now last (.slice q n5 c), .agg #[.int .i64 1, .int .i64 (t : Int), .int .u64 (a : Int)]] w (StepP w O gr last n (.slice q n5 c) E) := by
  obtain ⟨hx, hb⟩ := Sx.start w gr now last (.slice q n5 c) 1 (t : Int) a
  have SX := Lib.hid hx
  have HB := Lib.hid hb
  have HS := Lib.hid h
  have S0 := Lib.hid (h.below hb)
  have hOlt := Lib.hid (fun x (hx : O x) => h.st.lt hx)
  have hwl := hx.br.lt
  clear hx hb h
  have HO1 := Lib.hid ((S0.out.dok hn).other gr hl a ha)
  obtain ⟨W, hW⟩ : ∃ W, W = (((w.alloc (.cells #[.int .u64 (gr : Int), .int .u64 (now : Int), .int .u64 (last : Int), .slice q n5 c] 57)).alloc (.cells #[.int .i64 1, .int .i64 (t : Int), .int .u64 (a : Int)] 34)).alloc (.cells #[.int .u64 0, .int .u64 0, .int .u64 0, .slice none 0 0] 57)) := ⟨_, rfl⟩
  rw [← hW] at SX HB S0 HO1 hwl
  have HW := Lib.hid hW
  clear hW
  obtain ⟨L1, hL1⟩ : ∃ L1, L1 = last + 1 := ⟨_, rfl⟩
  obtain ⟨A, hA⟩ : ∃ A, A = max now a := ⟨_, rfl⟩
  have hnA : now ≤ A := by omega
  have hlk := HS.out.st.lok.1
  have HIV := Lib.hid (HS.out.iv.soft hlk hnA gr t)
  obtain ⟨d2, hd2⟩ : ∃ d2, d2 = softD gr A (last + 1) t d := ⟨_, rfl⟩
  rw [← hd2] at HIV
  have HD := Lib.hid (fun (w' : World) (hb : Below W.heap.size W w') => ((S0.out.below hb).dok hn).softd gr t ht hl a ha)
  rw [← hA, ← hL1] at HO1
  simp only [← hA, ← hL1] at HD
  rw [← hL1] at hd2
  rw [← hd2] at HD
  obtain ⟨n6, hn6⟩ : ∃ n6, n6 = d2.length := ⟨_, rfl⟩
  rw [← hn6] at HD
  have HCL := Lib.hid (fun (w' : World) (hs : St w' g gr now last n d O) => calls_ok hs 1 (t : Int) (by unfold callOk; rw [ht]; rfl) hl a ha (by omega))
  have hcd : callD 1 (t : Int) gr A L1 d = d2 := by rw [hd2]; rfl
  simp only [← hA, ← hL1] at HCL
  rw [hcd] at HCL
  have HL1 := Lib.hid hL1
  clear hd2 hn6 hA hL1 hcd ht hl hnA hlk
  go_enter Try.func31, Try.ntmps31
  go_wp2_with fail
  rw [← HW.out]
  refine HO1.out.mono ?_
  rintro e w1 ⟨q1, c1, E1, rfl, hn1, hu1, dv1⟩
  have hwl1 := dv1.bel.size
  have hb2 := (Below.refl w1.heap.size w1).alloc (Nat.le_refl _) (.cells #[.int .u64 (gr : Int), .int .u64 (A : Int), .int .u64 (L1 : Int), .slice q1 n5 c1] 57)
  have hbW2 := dv1.bel.trans (hb2.mono hwl1)
  have SX1 := Lib.hid (SX.out.below hbW2)
  have NB := Lib.hid (Blk.new w1 57 #[.int .u64 (gr : Int), .int .u64 (A : Int), .int .u64 (L1 : Int), .slice q1 n5 c1])
  have S2 := Lib.hid (S0.out.below hbW2)
  have HB2 := Lib.hid hbW2
  obtain ⟨⟨c0, c1x, c2, c3⟩, ⟨a0, a1, a2⟩, _⟩ := SX1.out.cells
  have cells1 := SX1.out.bm.lt
  clear dv1 hn1 hu1 hb2 hbW2 HO1 HW
  go_wp2_with fail
  obtain ⟨N, hN⟩ : ∃ N, w1.heap.size = N := ⟨_, rfl⟩
  rw [hN] at NB
  simp only [hN]
  have HNE := Lib.hid hN
  clear hN
  generalize w1.alloc (.cells #[.int .u64 (gr : Int), .int .u64 (A : Int), .int .u64 (L1 : Int), .slice q1 n5 c1] 57) = W2 at *
  refine (HD.out _ HB2.out).mono ?_
  rintro e w2 ⟨q2, c2', E2, rfl, hn2, hu2, dv2⟩
  have hbw := dv2.bel
  have SX2 := SX1.out.below hbw
  have N2 := NB.out.below hbw NB.out.lt
  have hNl := NB.out.lt
  have hoN : Only (fun x => x = N) w2 ((((w2.setCell ⟨N, 0, none⟩ (.int .u64 (gr : Int))).setCell ⟨N, 1, none⟩ (.int .u64 (A : Int))).setCell ⟨N, 2, none⟩ (.int .u64 (L1 : Int))).setCell ⟨N, 3, none⟩ (.slice q2 n6 c2')) := ((((Only.refl (fun x => x = N) w2).setCell1 (g := N) (.inl rfl) 0 (.int .u64 (gr : Int))).setCell1 (g := N) (.inl rfl) 1 (.int .u64 (A : Int))).setCell1 (g := N) (.inl rfl) 2 (.int .u64 (L1 : Int))).setCell1 (g := N) (.inl rfl) 3 (.slice q2 n6 c2')
  have N3 : Hid (Blk ((((w2.setCell ⟨N, 0, none⟩ (.int .u64 (gr : Int))).setCell ⟨N, 1, none⟩ (.int .u64 (A : Int))).setCell ⟨N, 2, none⟩ (.int .u64 (L1 : Int))).setCell ⟨N, 3, none⟩ (.slice q2 n6 c2')) N 57 #[.int .u64 (gr : Int), .int .u64 (A : Int), .int .u64 (L1 : Int), .slice q2 n6 c2']) := by
    have := (((N2.set_ 0 (.int .u64 (gr : Int))).set_ 1 (.int .u64 (A : Int))).set_ 2 (.int .u64 (L1 : Int))).set_ 3 (.slice q2 n6 c2')
    simp only [List.setIfInBounds_toArray, List.set_cons_zero, List.set_cons_succ] at this
    exact this
  have SX3 := Lib.hid (SX2.only hoN (fun x hx => .inr (by have := HNE.out; omega)))
  have DV := Lib.hid (DocV.far HB2.out dv2 S0.out.lt (hoN.more (fun x hx => .inl (by have := HNE.out; omega))))
  have ST3 := Lib.hid ((S2.out.st.below hbw).other hoN (fun x hx e => by have := hOlt.out x hx; have := HNE.out; omega))
  have HN1 := Lib.hid hn2
  have HU1 := Lib.hid hu2
  obtain ⟨⟨k0, k1, k2, k3⟩, ⟨m0, m1, m2⟩, _⟩ := SX2.cells
  obtain ⟨p0, p1, p2, p3⟩ := ncells N2
  have nf := N2.frozen
  have hNA : ¬ N = w.heap.size + 1 := by have := HNE.out; omega
  have hAN : ¬ w.heap.size + 1 = N := by have := HNE.out; omega
  clear c0 c1x c2 c3 a0 a1 a2 dv2 hn2 hu2 hbw hoN SX2 N2 HD
  go_upto_region 10 with (fail)
  clear k0 k1 k2 k3 m0 m1 m2 p0 p1 p2 p3 nf
  generalize (((w2.setCell ⟨N, 0, none⟩ (.int .u64 (gr : Int))).setCell ⟨N, 1, none⟩ (.int .u64 (A : Int))).setCell ⟨N, 2, none⟩ (.int .u64 (L1 : Int))).setCell ⟨N, 3, none⟩ (.slice q2 n6 c2') = W3 at *
  obtain ⟨_, ⟨m0, m1, m2⟩, _⟩ := SX3.out.cells
  go_wp2_with fail
  refine (HCL.out _ ST3.out).mono ?_
  rintro e w4 ⟨rfl, O2, s4, g4⟩
  have S4 := Lib.hid s4
  have G4 := Lib.hid g4
  have SX4 := Lib.hid (SX3.out.only g4.only (fun x hx => .inl (hOlt.out x hx)))
  have N4 := Lib.hid (N3.out.only g4.only (fun hx => by have := hOlt.out _ hx; have := HNE.out; omega))
  clear s4 g4
  have D4 := Lib.hid (SX4.out.below ((Below.refl _ _).drew : Below w4.heap.size w4 w4.drew))
  have NN4 := Lib.hid (N4.out.drewN 1)
  obtain ⟨_, _, ⟨u0, u1, u2, u3⟩⟩ := SX4.out.cells
  have uf := SX4.out.br.frozen
  obtain ⟨y0, y1, y2, y3⟩ := ncells N4.out
  obtain ⟨_, _, ⟨r0, r1, r2, r3⟩⟩ := D4.out.cells
  have rf := D4.out.br.frozen
  obtain ⟨z0, z1, z2, z3⟩ := ncells NN4.out
  have hNR : ¬ N = w.heap.size + 2 := by have := HNE.out; omega
  have hRN : ¬ w.heap.size + 2 = N := by have := HNE.out; omega
  go_wp2_with fail
  go_region_law (first
    | (go_simp; go_at_call 14; refine (gives_same _ _ _).mono ?_; rintro e w5 ⟨rfl, rfl⟩))
  all_goals
    go_wp2_with fail
    obtain ⟨ho, e0, e1, e2, e3⟩ := D4.out.ret (gr : Int) (A : Int) (L1 : Int) (.slice q2 n6 c2')
    obtain ⟨_, e0, e1, e2, e3⟩ := SX4.out.ret (gr : Int) (A : Int) (L1 : Int) (.slice q2 n6 c2')
    obtain ⟨f1, f2⟩ := HS.out.go (w3 := _) HB.out DV.out HN1.out HU1.out (S4.out.below ((Below.refl _ _).drew : Below w4.heap.size w4 w4.drew)) (⟨G4.out.only.trans (Only.of_below ((Below.refl _ _).drew : Below w4.heap.size w4 w4.drew) (fun _ => False)) (fun _ h => h.elim), G4.out.new⟩ : Goes W3 O w4.drew O2) HIV.out (ho.more (fun x hx => .inl ⟨hx.1, by omega⟩))
    exact bodyPost_ret (v := .tuple #[.pointer (some ⟨g, 0, none⟩), mV (gr : Int) (A : Int) (L1 : Int) (.slice q2 n6 c2'), .bool true]) (by simp [results, Try.results31, go_sem, e0, e1, e2, e3]) rfl ⟨g, A, L1, (n + 1), q2, n6, c2', E2, _, O2, rfl, f1, f2, (by have := HL1.out; omega), (Nat.le_refl _)⟩
set_option maxHeartbeats 8000000 in
set_option maxRecDepth 100000 in
theorem step_hardBad {w : World} {g gr now last n n5 c : Nat} {q : Option Addr} {E : List Ev} {d : List Tg} {O : Nat → Prop} (h : Syn w g gr now last n q n5 c E d O) (hn : n ≤ 98000) (t : Int) (ht : tagB t = false) (hl : last < 18446744073709551615) (a : Nat) (ha : a ≤ 18446744073709551615) :
    Calls Try.prog 31 #[.pointer (some ⟨g, 0, none⟩), mV gr now last (.slice q n5 c), .agg #[.int .i64 0, .int .i64 t, .int .u64 (a : Int)]] w (StepP w O gr last n (.slice q n5 c) E) := by
  obtain ⟨hx, hb⟩ := Sx.start w gr now last (.slice q n5 c) 0 t a
  have SX := Lib.hid hx
  have HB := Lib.hid hb
  have HS := Lib.hid h
  have S0 := Lib.hid (h.below hb)
  have hOlt := Lib.hid (fun x (hx : O x) => h.st.lt hx)
  have hwl := hx.br.lt
  clear hx hb h
  have HO1 := Lib.hid ((S0.out.dok hn).other gr hl a ha)
  obtain ⟨W, hW⟩ : ∃ W, W = (((w.alloc (.cells #[.int .u64 (gr : Int), .int .u64 (now : Int), .int .u64 (last : Int), .slice q n5 c] 57)).alloc (.cells #[.int .i64 0, .int .i64 t, .int .u64 (a : Int)] 34)).alloc (.cells #[.int .u64 0, .int .u64 0, .int .u64 0, .slice none 0 0] 57)) := ⟨_, rfl⟩
  rw [← hW] at SX HB S0 HO1 hwl
  have HW := Lib.hid hW
  clear hW
  obtain ⟨L1, hL1⟩ : ∃ L1, L1 = last + 1 := ⟨_, rfl⟩
  obtain ⟨A, hA⟩ : ∃ A, A = max now a := ⟨_, rfl⟩
  have hnA : now ≤ A := by omega
  have hlk := HS.out.st.lok.1
  rw [← hA, ← hL1] at HO1
  have HD := Lib.hid (fun (w' : World) => harddBad gr now a (last : Int) q n5 c w' t ht)
  have HCL := Lib.hid (fun (w' : World) (hs : St w' g gr now last n d O) => calls_bad hs 0 t (by unfold callOk; rw [ht]; rfl) a)
  clear hA hL1 hnA hlk hl
  go_enter Try.func31, Try.ntmps31
  go_wp2_with fail
  rw [← HW.out]
  refine HO1.out.mono ?_
  rintro e w1 ⟨q1, c1, E1, rfl, hn1, hu1, dv1⟩
  have hwl1 := dv1.bel.size
  have hb2 := (Below.refl w1.heap.size w1).alloc (Nat.le_refl _) (.cells #[.int .u64 (gr : Int), .int .u64 (A : Int), .int .u64 (L1 : Int), .slice q1 n5 c1] 57)
  have hbW2 := dv1.bel.trans (hb2.mono hwl1)
  have SX1 := Lib.hid (SX.out.below hbW2)
  have NB := Lib.hid (Blk.new w1 57 #[.int .u64 (gr : Int), .int .u64 (A : Int), .int .u64 (L1 : Int), .slice q1 n5 c1])
  have S2 := Lib.hid (S0.out.below hbW2)
  have HB2 := Lib.hid hbW2
  obtain ⟨⟨c0, c1x, c2, c3⟩, ⟨a0, a1, a2⟩, _⟩ := SX1.out.cells
  have cells1 := SX1.out.bm.lt
  clear dv1 hn1 hu1 hb2 hbW2 HO1 HW
  go_wp2_with fail
  obtain ⟨N, hN⟩ : ∃ N, w1.heap.size = N := ⟨_, rfl⟩
  rw [hN] at NB
  simp only [hN]
  have HNE := Lib.hid hN
  clear hN
  generalize w1.alloc (.cells #[.int .u64 (gr : Int), .int .u64 (A : Int), .int .u64 (L1 : Int), .slice q1 n5 c1] 57) = W2 at *
  refine (HD.out _).mono ?_
  rintro e w2 ⟨rfl, hbw⟩
  have dv2 : DocV W2 w2 (.slice q n5 c) E (.slice q n5 c) E := (DocV.refl S2.out.li).below hbw
  have hn2 := S2.out.ln
  have hu2 := S2.out.un
  have SX2 := SX1.out.below hbw
  have N2 := NB.out.below hbw NB.out.lt
  have hNl := NB.out.lt
  have hoN : Only (fun x => x = N) w2 ((((w2.setCell ⟨N, 0, none⟩ (.int .u64 (gr : Int))).setCell ⟨N, 1, none⟩ (.int .u64 (now : Int))).setCell ⟨N, 2, none⟩ (.int .u64 (last : Int))).setCell ⟨N, 3, none⟩ (.slice q n5 c)) := ((((Only.refl (fun x => x = N) w2).setCell1 (g := N) (.inl rfl) 0 (.int .u64 (gr : Int))).setCell1 (g := N) (.inl rfl) 1 (.int .u64 (now : Int))).setCell1 (g := N) (.inl rfl) 2 (.int .u64 (last : Int))).setCell1 (g := N) (.inl rfl) 3 (.slice q n5 c)
  have N3 : Hid (Blk ((((w2.setCell ⟨N, 0, none⟩ (.int .u64 (gr : Int))).setCell ⟨N, 1, none⟩ (.int .u64 (now : Int))).setCell ⟨N, 2, none⟩ (.int .u64 (last : Int))).setCell ⟨N, 3, none⟩ (.slice q n5 c)) N 57 #[.int .u64 (gr : Int), .int .u64 (now : Int), .int .u64 (last : Int), .slice q n5 c]) := by
    have := (((N2.set_ 0 (.int .u64 (gr : Int))).set_ 1 (.int .u64 (now : Int))).set_ 2 (.int .u64 (last : Int))).set_ 3 (.slice q n5 c)
    simp only [List.setIfInBounds_toArray, List.set_cons_zero, List.set_cons_succ] at this
    exact this
  have SX3 := Lib.hid (SX2.only hoN (fun x hx => .inr (by have := HNE.out; omega)))
  have DV := Lib.hid (DocV.far HB2.out dv2 S0.out.lt (hoN.more (fun x hx => .inl (by have := HNE.out; omega))))
  have ST3 := Lib.hid ((S2.out.st.below hbw).other hoN (fun x hx e => by have := hOlt.out x hx; have := HNE.out; omega))
  have HN1 := Lib.hid hn2
  have HU1 := Lib.hid hu2
  obtain ⟨⟨k0, k1, k2, k3⟩, ⟨m0, m1, m2⟩, _⟩ := SX2.cells
  obtain ⟨p0, p1, p2, p3⟩ := ncells N2
  have nf := N2.frozen
  have hNA : ¬ N = w.heap.size + 1 := by have := HNE.out; omega
  have hAN : ¬ w.heap.size + 1 = N := by have := HNE.out; omega
  clear c0 c1x c2 c3 a0 a1 a2 dv2 hn2 hu2 hbw hoN SX2 N2 HD
  go_upto_region 10 with (fail)
  clear k0 k1 k2 k3 m0 m1 m2 p0 p1 p2 p3 nf
  generalize (((w2.setCell ⟨N, 0, none⟩ (.int .u64 (gr : Int))).setCell ⟨N, 1, none⟩ (.int .u64 (now : Int))).setCell ⟨N, 2, none⟩ (.int .u64 (last : Int))).setCell ⟨N, 3, none⟩ (.slice q n5 c) = W3 at *
  obtain ⟨_, ⟨m0, m1, m2⟩, _⟩ := SX3.out.cells
  go_wp2_with fail
  refine (HCL.out _ ST3.out).mono ?_
  rintro e w4 ⟨rfl, b4⟩
  have S4 := Lib.hid (ST3.out.below b4)
  have G4 : Hid (Goes W3 O w4 O) := Goes.only_ (Only.of_below b4 O)
  have SX4 := Lib.hid (SX3.out.below b4)
  have N4 := Lib.hid (N3.out.below b4 N3.out.lt)
  clear b4
  have D4 := Lib.hid (SX4.out.below ((Below.refl _ _).drew : Below w4.heap.size w4 w4.drew))
  have NN4 := Lib.hid (N4.out.drewN 1)
  obtain ⟨_, _, ⟨u0, u1, u2, u3⟩⟩ := SX4.out.cells
  have uf := SX4.out.br.frozen
  obtain ⟨y0, y1, y2, y3⟩ := ncells N4.out
  obtain ⟨_, _, ⟨r0, r1, r2, r3⟩⟩ := D4.out.cells
  have rf := D4.out.br.frozen
  obtain ⟨z0, z1, z2, z3⟩ := ncells NN4.out
  have hNR : ¬ N = w.heap.size + 2 := by have := HNE.out; omega
  have hRN : ¬ w.heap.size + 2 = N := by have := HNE.out; omega
  go_wp2_with fail
  go_region_law (first
    | (go_simp; go_at_call 14; refine (gives_same _ _ _).mono ?_; rintro e w5 ⟨rfl, rfl⟩))
  all_goals
    go_wp2_with fail
    obtain ⟨ho, e0, e1, e2, e3⟩ := D4.out.ret (gr : Int) (now : Int) (last : Int) (.slice q n5 c)
    obtain ⟨_, e0, e1, e2, e3⟩ := SX4.out.ret (gr : Int) (now : Int) (last : Int) (.slice q n5 c)
    obtain ⟨f1, f2⟩ := HS.out.go (w3 := _) HB.out DV.out HN1.out HU1.out (S4.out.below ((Below.refl _ _).drew : Below w4.heap.size w4 w4.drew)) (⟨G4.out.only.trans (Only.of_below ((Below.refl _ _).drew : Below w4.heap.size w4 w4.drew) (fun _ => False)) (fun _ h => h.elim), G4.out.new⟩ : Goes W3 O w4.drew O) HS.out.iv (ho.more (fun x hx => .inl ⟨hx.1, by omega⟩))
    exact bodyPost_ret (v := .tuple #[.pointer (some ⟨g, 0, none⟩), mV (gr : Int) (now : Int) (last : Int) (.slice q n5 c), .bool true]) (by simp [results, Try.results31, go_sem, e0, e1, e2, e3]) rfl ⟨g, now, last, n, q, n5, c, E, _, O, rfl, f1, f2, Nat.le_succ _, Nat.le_succ _⟩
set_option maxHeartbeats 8000000 in
set_option maxRecDepth 100000 in
theorem step_softBad {w : World} {g gr now last n n5 c : Nat} {q : Option Addr} {E : List Ev} {d : List Tg} {O : Nat → Prop} (h : Syn w g gr now last n q n5 c E d O) (hn : n ≤ 98000) (t : Int) (ht : tagB t = false) (hl : last < 18446744073709551615) (a : Nat) (ha : a ≤ 18446744073709551615) :
    Calls Try.prog 31 #[.pointer (some ⟨g, 0, none⟩), mV gr now last (.slice q n5 c), .agg #[.int .i64 1, .int .i64 t, .int .u64 (a : Int)]] w (StepP w O gr last n (.slice q n5 c) E) := by
  obtain ⟨hx, hb⟩ := Sx.start w gr now last (.slice q n5 c) 1 t a
  have SX := Lib.hid hx
  have HB := Lib.hid hb
  have HS := Lib.hid h
  have S0 := Lib.hid (h.below hb)
  have hOlt := Lib.hid (fun x (hx : O x) => h.st.lt hx)
  have hwl := hx.br.lt
  clear hx hb h
  have HO1 := Lib.hid ((S0.out.dok hn).other gr hl a ha)
  obtain ⟨W, hW⟩ : ∃ W, W = (((w.alloc (.cells #[.int .u64 (gr : Int), .int .u64 (now : Int), .int .u64 (last : Int), .slice q n5 c] 57)).alloc (.cells #[.int .i64 1, .int .i64 t, .int .u64 (a : Int)] 34)).alloc (.cells #[.int .u64 0, .int .u64 0, .int .u64 0, .slice none 0 0] 57)) := ⟨_, rfl⟩
  rw [← hW] at SX HB S0 HO1 hwl
  have HW := Lib.hid hW
  clear hW
  obtain ⟨L1, hL1⟩ : ∃ L1, L1 = last + 1 := ⟨_, rfl⟩
  obtain ⟨A, hA⟩ : ∃ A, A = max now a := ⟨_, rfl⟩
  have hnA : now ≤ A := by omega
  have hlk := HS.out.st.lok.1
  rw [← hA, ← hL1] at HO1
  have HD := Lib.hid (fun (w' : World) => softdBad gr now a (last : Int) q n5 c w' t ht)
  have HCL := Lib.hid (fun (w' : World) (hs : St w' g gr now last n d O) => calls_bad hs 1 t (by unfold callOk; rw [ht]; rfl) a)
  clear hA hL1 hnA hlk hl
  go_enter Try.func31, Try.ntmps31
  go_wp2_with fail
  rw [← HW.out]
  refine HO1.out.mono ?_
  rintro e w1 ⟨q1, c1, E1, rfl, hn1, hu1, dv1⟩
  have hwl1 := dv1.bel.size
  have hb2 := (Below.refl w1.heap.size w1).alloc (Nat.le_refl _) (.cells #[.int .u64 (gr : Int), .int .u64 (A : Int), .int .u64 (L1 : Int), .slice q1 n5 c1] 57)
  have hbW2 := dv1.bel.trans (hb2.mono hwl1)
  have SX1 := Lib.hid (SX.out.below hbW2)
  have NB := Lib.hid (Blk.new w1 57 #[.int .u64 (gr : Int), .int .u64 (A : Int), .int .u64 (L1 : Int), .slice q1 n5 c1])
  have S2 := Lib.hid (S0.out.below hbW2)
  have HB2 := Lib.hid hbW2
  obtain ⟨⟨c0, c1x, c2, c3⟩, ⟨a0, a1, a2⟩, _⟩ := SX1.out.cells
  have cells1 := SX1.out.bm.lt
  clear dv1 hn1 hu1 hb2 hbW2 HO1 HW
  go_wp2_with fail
  obtain ⟨N, hN⟩ : ∃ N, w1.heap.size = N := ⟨_, rfl⟩
  rw [hN] at NB
  simp only [hN]
  have HNE := Lib.hid hN
  clear hN
  generalize w1.alloc (.cells #[.int .u64 (gr : Int), .int .u64 (A : Int), .int .u64 (L1 : Int), .slice q1 n5 c1] 57) = W2 at *
  refine (HD.out _).mono ?_
  rintro e w2 ⟨rfl, hbw⟩
  have dv2 : DocV W2 w2 (.slice q n5 c) E (.slice q n5 c) E := (DocV.refl S2.out.li).below hbw
  have hn2 := S2.out.ln
  have hu2 := S2.out.un
  have SX2 := SX1.out.below hbw
  have N2 := NB.out.below hbw NB.out.lt
  have hNl := NB.out.lt
  have hoN : Only (fun x => x = N) w2 ((((w2.setCell ⟨N, 0, none⟩ (.int .u64 (gr : Int))).setCell ⟨N, 1, none⟩ (.int .u64 (now : Int))).setCell ⟨N, 2, none⟩ (.int .u64 (last : Int))).setCell ⟨N, 3, none⟩ (.slice q n5 c)) := ((((Only.refl (fun x => x = N) w2).setCell1 (g := N) (.inl rfl) 0 (.int .u64 (gr : Int))).setCell1 (g := N) (.inl rfl) 1 (.int .u64 (now : Int))).setCell1 (g := N) (.inl rfl) 2 (.int .u64 (last : Int))).setCell1 (g := N) (.inl rfl) 3 (.slice q n5 c)
  have N3 : Hid (Blk ((((w2.setCell ⟨N, 0, none⟩ (.int .u64 (gr : Int))).setCell ⟨N, 1, none⟩ (.int .u64 (now : Int))).setCell ⟨N, 2, none⟩ (.int .u64 (last : Int))).setCell ⟨N, 3, none⟩ (.slice q n5 c)) N 57 #[.int .u64 (gr : Int), .int .u64 (now : Int), .int .u64 (last : Int), .slice q n5 c]) := by
    have := (((N2.set_ 0 (.int .u64 (gr : Int))).set_ 1 (.int .u64 (now : Int))).set_ 2 (.int .u64 (last : Int))).set_ 3 (.slice q n5 c)
    simp only [List.setIfInBounds_toArray, List.set_cons_zero, List.set_cons_succ] at this
    exact this
  have SX3 := Lib.hid (SX2.only hoN (fun x hx => .inr (by have := HNE.out; omega)))
  have DV := Lib.hid (DocV.far HB2.out dv2 S0.out.lt (hoN.more (fun x hx => .inl (by have := HNE.out; omega))))
  have ST3 := Lib.hid ((S2.out.st.below hbw).other hoN (fun x hx e => by have := hOlt.out x hx; have := HNE.out; omega))
  have HN1 := Lib.hid hn2
  have HU1 := Lib.hid hu2
  obtain ⟨⟨k0, k1, k2, k3⟩, ⟨m0, m1, m2⟩, _⟩ := SX2.cells
  obtain ⟨p0, p1, p2, p3⟩ := ncells N2
  have nf := N2.frozen
  have hNA : ¬ N = w.heap.size + 1 := by have := HNE.out; omega
  have hAN : ¬ w.heap.size + 1 = N := by have := HNE.out; omega
  clear c0 c1x c2 c3 a0 a1 a2 dv2 hn2 hu2 hbw hoN SX2 N2 HD
  go_upto_region 10 with (fail)
  clear k0 k1 k2 k3 m0 m1 m2 p0 p1 p2 p3 nf
  generalize (((w2.setCell ⟨N, 0, none⟩ (.int .u64 (gr : Int))).setCell ⟨N, 1, none⟩ (.int .u64 (now : Int))).setCell ⟨N, 2, none⟩ (.int .u64 (last : Int))).setCell ⟨N, 3, none⟩ (.slice q n5 c) = W3 at *
  obtain ⟨_, ⟨m0, m1, m2⟩, _⟩ := SX3.out.cells
  go_wp2_with fail
  refine (HCL.out _ ST3.out).mono ?_
  rintro e w4 ⟨rfl, b4⟩
  have S4 := Lib.hid (ST3.out.below b4)
  have G4 : Hid (Goes W3 O w4 O) := Goes.only_ (Only.of_below b4 O)
  have SX4 := Lib.hid (SX3.out.below b4)
  have N4 := Lib.hid (N3.out.below b4 N3.out.lt)
  clear b4
  have D4 := Lib.hid (SX4.out.below ((Below.refl _ _).drew : Below w4.heap.size w4 w4.drew))
  have NN4 := Lib.hid (N4.out.drewN 1)
  obtain ⟨_, _, ⟨u0, u1, u2, u3⟩⟩ := SX4.out.cells
  have uf := SX4.out.br.frozen
  obtain ⟨y0, y1, y2, y3⟩ := ncells N4.out
  obtain ⟨_, _, ⟨r0, r1, r2, r3⟩⟩ := D4.out.cells
  have rf := D4.out.br.frozen
  obtain ⟨z0, z1, z2, z3⟩ := ncells NN4.out
  have hNR : ¬ N = w.heap.size + 2 := by have := HNE.out; omega
  have hRN : ¬ w.heap.size + 2 = N := by have := HNE.out; omega
  go_wp2_with fail
  go_region_law (first
    | (go_simp; go_at_call 14; refine (gives_same _ _ _).mono ?_; rintro e w5 ⟨rfl, rfl⟩))
  all_goals
    go_wp2_with fail
    obtain ⟨ho, e0, e1, e2, e3⟩ := D4.out.ret (gr : Int) (now : Int) (last : Int) (.slice q n5 c)
    obtain ⟨_, e0, e1, e2, e3⟩ := SX4.out.ret (gr : Int) (now : Int) (last : Int) (.slice q n5 c)
    obtain ⟨f1, f2⟩ := HS.out.go (w3 := _) HB.out DV.out HN1.out HU1.out (S4.out.below ((Below.refl _ _).drew : Below w4.heap.size w4 w4.drew)) (⟨G4.out.only.trans (Only.of_below ((Below.refl _ _).drew : Below w4.heap.size w4 w4.drew) (fun _ => False)) (fun _ h => h.elim), G4.out.new⟩ : Goes W3 O w4.drew O) HS.out.iv (ho.more (fun x hx => .inl ⟨hx.1, by omega⟩))
    exact bodyPost_ret (v := .tuple #[.pointer (some ⟨g, 0, none⟩), mV (gr : Int) (now : Int) (last : Int) (.slice q n5 c), .bool true]) (by simp [results, Try.results31, go_sem, e0, e1, e2, e3]) rfl ⟨g, now, last, n, q, n5, c, E, _, O, rfl, f1, f2, Nat.le_succ _, Nat.le_succ _⟩
end Go.Proofs.Ytckdfnlleaifcaa
