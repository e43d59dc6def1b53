/- The law's step: Forget, and the purges. -/
import Derived.Test.YtckdfnlleaifcaaStnH
namespace Go.Proofs.Ytckdfnlleaifcaa
set_option linter.unusedVariables false
open Go.RowKit Go.Maps Go.Sort

/-- What is made between the boxes and a list that came out of a call may turn. -/
theorem DocV.far {W A w2 w3 : World} {v v2 : Value} {E E2 : List Ev} (hA : Below W.heap.size W A) (h : DocV A w2 v E v2 E2) (hlt : LtV W v E) (ho : Only (fun x => W.heap.size ≤ x ∧ x < A.heap.size) w2 w3) : DocV W w3 v E v2 E2 := by
  have s1 := hA.size
  have s2 := h.bel.size
  have s3 := ho.size
  refine ⟨h.li.only ho (fun z hz e => ?_) (fun e he z hz e2 => ?_), (hA.trans (h.bel.mono s1)).trans (ho.below (fun x hx => hx.1) (by omega)), fun z hz => (h.lo z hz).imp (fun k => ⟨by omega, by omega⟩) id, fun e he z hz => (h.eo e he z hz).imp (fun k => ⟨by omega, by omega⟩) id⟩
  · rcases h.lo z hz with k | k
    · omega
    · have := hlt.1 z k; omega
  · rcases h.eo e he z hz with k | ⟨e0, k0, k⟩
    · omega
    · have := hlt.2 e0 k0 z k; omega
theorem ncells {w : World} {N : Nat} {x0 x1 x2 v : Value} (h : Blk w N 57 #[x0, x1, x2, v]) : w.cell? ⟨N, 0, none⟩ = some x0 ∧ w.cell? ⟨N, 1, none⟩ = some x1 ∧ w.cell? ⟨N, 2, none⟩ = some x2 ∧ w.cell? ⟨N, 3, none⟩ = some v :=
  ⟨Blk.cell h 0, Blk.cell h 1, Blk.cell h 2, Blk.cell h 3⟩
set_option maxHeartbeats 8000000 in
set_option maxRecDepth 100000 in
theorem step_forget {w : World} {g gr now last n n5 c : Nat} {q : Option Addr} {E : List Ev} {d : List Tg} {O : Nat → Prop} (h : Syn w g gr now last n q n5 c E d O) (hn : n ≤ 98000) (t : Nat) (ht : tagB (t : Int) = true) (a : Nat) (ha : a ≤ 18446744073709551615) :
    Calls Try.prog 31 #[.pointer (some ⟨g, 0, none⟩), mV gr now last (.slice q n5 c), .agg #[.int .i64 4, .int .i64 (t : Int), .int .u64 (a : Int)]] w (StepP w O gr last n (.slice q n5 c) E) := by
  obtain ⟨hx, hb⟩ := Sx.start w gr now last (.slice q n5 c) 4 (t : Int) a
  have SX := Lib.hid hx
  have HB := Lib.hid hb
  have HS := Lib.hid h
  have S0 := Lib.hid (h.below hb)
  have hOlt := Lib.hid (fun x (hx : O x) => h.st.lt hx)
  have hwl := hx.br.lt
  clear hx hb h
  have HF := Lib.hid ((S0.out.dok hn).forgetd gr t ht)
  obtain ⟨k, hk, hk5, hk6⟩ := tagB_nat ht
  have hkt : t < 65536 := by omega
  clear hk hk5 hk6
  obtain ⟨W, hW⟩ : ∃ W, W = (((w.alloc (.cells #[.int .u64 (gr : Int), .int .u64 (now : Int), .int .u64 (last : Int), .slice q n5 c] 57)).alloc (.cells #[.int .i64 4, .int .i64 (t : Int), .int .u64 (a : Int)] 34)).alloc (.cells #[.int .u64 0, .int .u64 0, .int .u64 0, .slice none 0 0] 57)) := ⟨_, rfl⟩
  rw [← hW] at SX HB S0 HF hwl
  have HW := Lib.hid hW
  clear hW
  go_enter Try.func31, Try.ntmps31
  go_wp2_with fail
  rw [← HW.out]
  refine HF.out.mono ?_
  rintro e w1 ⟨n6, q1, c1, E1, rfl, hn1, hu1, dv1⟩
  have DV := Lib.hid dv1
  have HN1 := Lib.hid hn1
  have HU1 := Lib.hid hu1
  have hwl1 := dv1.bel.size
  have hb2 := (Below.refl w1.heap.size w1).alloc (Nat.le_refl _) (.cells #[.int .u64 (gr : Int), .int .u64 (now : Int), .int .u64 (last : Int), .slice q1 n6 c1] 57)
  have SX1 := Lib.hid ((SX.out.below dv1.bel).below hb2)
  have NB := Lib.hid (Blk.new w1 57 #[.int .u64 (gr : Int), .int .u64 (now : Int), .int .u64 (last : Int), .slice q1 n6 c1])
  have ST1 := Lib.hid ((S0.out.st.below dv1.bel).below hb2)
  have HB2 := Lib.hid hb2
  obtain ⟨⟨c0, c1x, c2, c3⟩, ⟨a0, a1, a2⟩, _⟩ := SX1.out.cells
  obtain ⟨b0, b1x, b2, b3⟩ := ncells NB.out
  clear dv1 hn1 hu1 hb2 HF HW
  go_wp2_with fail
  obtain ⟨N, hN⟩ : ∃ N, w1.heap.size = N := ⟨_, rfl⟩
  rw [hN] at NB
  simp only [hN] at b0 b1x b2 b3 ⊢
  have HNE := Lib.hid hN
  clear hN
  generalize w1.alloc (.cells #[.int .u64 (gr : Int), .int .u64 (now : Int), .int .u64 (last : Int), .slice q1 n6 c1] 57) = W2 at *
  have D2 := Lib.hid (SX1.out.below ((Below.refl _ _).drew : Below W2.heap.size W2 W2.drew))
  have N2 := Lib.hid (NB.out.drewN 1)
  have ST2 := Lib.hid (ST1.out.below ((Below.refl _ _).drew : Below W2.heap.size W2 W2.drew))
  have hNl := Lib.hid (fun x (hx : O x) => hOlt.out x hx)
  obtain ⟨⟨k0, k1, k2, k3⟩, ⟨m0, m1, m2⟩, _⟩ := D2.out.cells
  obtain ⟨_, _, ⟨u0, u1, u2, u3⟩⟩ := SX1.out.cells
  have uf := SX1.out.br.frozen
  obtain ⟨p0, p1, p2, p3⟩ := ncells N2.out
  have hNR : ¬ N = w.heap.size + 2 := by have := HNE.out; omega
  have hRN : ¬ w.heap.size + 2 = N := by have := HNE.out; omega
  go_region_law (first
    | (go_simp; go_at_call 17; refine (forget_ok ST2.out t hkt).mono ?_; rintro e w3 ⟨rfl, s3, o3⟩; have S3 := Lib.hid s3; have O3 := Lib.hid o3; have SXF := Lib.hid (D2.out.only o3 (fun x hx => .inl (hOlt.out x hx))); have N3 := Lib.hid (N2.out.only o3 (fun hx => by have := hOlt.out _ hx; have := HNE.out; omega)); obtain ⟨⟨j0, j1, j2, j3⟩, ⟨i0, i1, i2⟩, ⟨r0, r1, r2, r3⟩⟩ := SXF.out.cells; obtain ⟨l0, l1, l2, l3⟩ := ncells N3.out; have rf := SXF.out.br.frozen; clear s3 o3))
  all_goals
    go_wp2_with fail
    obtain ⟨ho, e0, e1, e2, e3⟩ := SXF.out.ret (gr : Int) (now : Int) (last : Int) (.slice q1 n6 c1)
    obtain ⟨f1, f2⟩ := HS.out.go (w3 := _) HB.out DV.out HN1.out HU1.out S3.out (Goes.front (HB2.out.trans ((Below.refl _ _).drew)) (Goes.only_ O3.out)) (HS.out.iv.del t) (ho.more (fun x hx => .inl ⟨hx.1, by omega⟩))
    exact bodyPost_ret (v := .tuple #[.pointer (some ⟨g, 0, none⟩), mV (gr : Int) (now : Int) (last : Int) (.slice q1 n6 c1), .bool true]) (by simp [results, Try.results31, go_sem, e0, e1, e2, e3]) rfl ⟨g, now, last, n, q1, n6, c1, E1, _, O, rfl, f1, f2, Nat.le_succ _, Nat.le_succ _⟩
set_option maxHeartbeats 8000000 in
set_option maxRecDepth 100000 in
theorem step_forgetBad {w : World} {g gr now last n n5 c : Nat} {q : Option Addr} {E : List Ev} {d : List Tg} {O : Nat → Prop} (h : Syn w g gr now last n q n5 c E d O) (hn : n ≤ 98000) (t : Int) (ht : tagB t = false) (a : Nat) (ha : a ≤ 18446744073709551615) :
    Calls Try.prog 31 #[.pointer (some ⟨g, 0, none⟩), mV gr now last (.slice q n5 c), .agg #[.int .i64 4, .int .i64 t, .int .u64 (a : Int)]] w (StepP w O gr last n (.slice q n5 c) E) := by
  obtain ⟨hx, hb⟩ := Sx.start w gr now last (.slice q n5 c) 4 t a
  have SX := Lib.hid hx
  have HB := Lib.hid hb
  have HS := Lib.hid h
  have S0 := Lib.hid (h.below hb)
  have hOlt := Lib.hid (fun x (hx : O x) => h.st.lt hx)
  have hwl := hx.br.lt
  clear hx hb h
  have HF := Lib.hid (forgetdBad gr now (last : Int) q n5 c ((((w.alloc (.cells #[.int .u64 (gr : Int), .int .u64 (now : Int), .int .u64 (last : Int), .slice q n5 c] 57)).alloc (.cells #[.int .i64 4, .int .i64 t, .int .u64 (a : Int)] 34)).alloc (.cells #[.int .u64 0, .int .u64 0, .int .u64 0, .slice none 0 0] 57))) t ht)
  obtain ⟨W, hW⟩ : ∃ W, W = (((w.alloc (.cells #[.int .u64 (gr : Int), .int .u64 (now : Int), .int .u64 (last : Int), .slice q n5 c] 57)).alloc (.cells #[.int .i64 4, .int .i64 t, .int .u64 (a : Int)] 34)).alloc (.cells #[.int .u64 0, .int .u64 0, .int .u64 0, .slice none 0 0] 57)) := ⟨_, rfl⟩
  rw [← hW] at SX HB S0 HF hwl
  have HW := Lib.hid hW
  clear hW
  go_enter Try.func31, Try.ntmps31
  go_wp2_with fail
  rw [← HW.out]
  refine HF.out.mono ?_
  rintro e w1 ⟨rfl, b1⟩
  have dv1 : DocV W w1 (.slice q n5 c) E (.slice q n5 c) E := (DocV.refl S0.out.li).below b1
  have hn1 := S0.out.ln
  have hu1 := S0.out.un
  have DV := Lib.hid dv1
  have HN1 := Lib.hid hn1
  have HU1 := Lib.hid hu1
  have hwl1 := dv1.bel.size
  have hb2 := (Below.refl w1.heap.size w1).alloc (Nat.le_refl _) (.cells #[.int .u64 (gr : Int), .int .u64 (now : Int), .int .u64 (last : Int), .slice q n5 c] 57)
  have SX1 := Lib.hid ((SX.out.below dv1.bel).below hb2)
  have NB := Lib.hid (Blk.new w1 57 #[.int .u64 (gr : Int), .int .u64 (now : Int), .int .u64 (last : Int), .slice q n5 c])
  have ST1 := Lib.hid ((S0.out.st.below dv1.bel).below hb2)
  have HB2 := Lib.hid hb2
  obtain ⟨⟨c0, c1x, c2, c3⟩, ⟨a0, a1, a2⟩, _⟩ := SX1.out.cells
  obtain ⟨b0, b1x, b2, b3⟩ := ncells NB.out
  clear dv1 hn1 hu1 hb2 HF HW
  go_wp2_with fail
  obtain ⟨N, hN⟩ : ∃ N, w1.heap.size = N := ⟨_, rfl⟩
  rw [hN] at NB
  simp only [hN] at b0 b1x b2 b3 ⊢
  have HNE := Lib.hid hN
  clear hN
  generalize w1.alloc (.cells #[.int .u64 (gr : Int), .int .u64 (now : Int), .int .u64 (last : Int), .slice q n5 c] 57) = W2 at *
  have D2 := Lib.hid (SX1.out.below ((Below.refl _ _).drew : Below W2.heap.size W2 W2.drew))
  have N2 := Lib.hid (NB.out.drewN 1)
  have ST2 := Lib.hid (ST1.out.below ((Below.refl _ _).drew : Below W2.heap.size W2 W2.drew))
  have hNl := Lib.hid (fun x (hx : O x) => hOlt.out x hx)
  obtain ⟨⟨k0, k1, k2, k3⟩, ⟨m0, m1, m2⟩, _⟩ := D2.out.cells
  obtain ⟨_, _, ⟨u0, u1, u2, u3⟩⟩ := SX1.out.cells
  have uf := SX1.out.br.frozen
  obtain ⟨p0, p1, p2, p3⟩ := ncells N2.out
  have hNR : ¬ N = w.heap.size + 2 := by have := HNE.out; omega
  have hRN : ¬ w.heap.size + 2 = N := by have := HNE.out; omega
  go_region_law (first
    | (go_simp; go_at_call 17; refine (forget_bad ST2.out t ht).mono ?_; rintro e w3 ⟨rfl, rfl⟩; have SXF := D2; obtain ⟨⟨j0, j1, j2, j3⟩, ⟨i0, i1, i2⟩, ⟨r0, r1, r2, r3⟩⟩ := SXF.out.cells; have rf := SXF.out.br.frozen))
  all_goals
    go_wp2_with fail
    obtain ⟨ho, e0, e1, e2, e3⟩ := SXF.out.ret (gr : Int) (now : Int) (last : Int) (.slice q n5 c)
    obtain ⟨_, e0, e1, e2, e3⟩ := SX1.out.ret (gr : Int) (now : Int) (last : Int) (.slice q n5 c)
    obtain ⟨f1, f2⟩ := HS.out.go (w3 := _) HB.out DV.out HN1.out HU1.out ST2.out (Goes.front (HB2.out.trans ((Below.refl _ _).drew)) (Goes.only_ (Only.refl O _))) HS.out.iv (ho.more (fun x hx => .inl ⟨hx.1, by omega⟩))
    exact bodyPost_ret (v := .tuple #[.pointer (some ⟨g, 0, none⟩), mV (gr : Int) (now : Int) (last : Int) (.slice q n5 c), .bool true]) (by simp [results, Try.results31, go_sem, e0, e1, e2, e3]) rfl ⟨g, now, last, n, q, n5, c, E, _, O, rfl, f1, f2, Nat.le_succ _, Nat.le_succ _⟩
end Go.Proofs.Ytckdfnlleaifcaa
