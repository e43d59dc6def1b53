/- The law's step: Copy. -/
import Derived.Test.YtckdfnlleaifcaaStnJ
namespace Go.Proofs.Ytckdfnlleaifcaa
set_option linter.unusedVariables false
open Go.RowKit Go.Maps Go.Sort

set_option maxHeartbeats 8000000 in
set_option maxRecDepth 100000 in
theorem step_copy {w : World} {g gr now last n n5 c : Nat} {q : Option Addr} {E : List Ev} {d : List Tg} {O : Nat → Prop} (h : Syn w g gr now last n q n5 c E d O) (hn : n ≤ 98000) (what t : Int) (h6 : ∀ k : Int, 0 ≤ k → k ≤ 5 → what ≠ k) (hl : last + 2 < 18446744073709551615) (a : Nat) (ha : a ≤ 18446744073709551615) :
    Calls Try.prog 31 #[.pointer (some ⟨g, 0, none⟩), mV gr now last (.slice q n5 c), .agg #[.int .i64 what, .int .i64 t, .int .u64 (a : Int)]] w (StepP w O gr last n (.slice q n5 c) E) := by
  obtain ⟨hx, hb⟩ := Sx.start w gr now last (.slice q n5 c) what t a
  have SX := Lib.hid hx
  have HB := Lib.hid hb
  have HS := Lib.hid h
  have S0 := Lib.hid (h.below hb)
  have hOlt := Lib.hid (fun x (hx : O x) => h.st.lt hx)
  have hwl := hx.br.lt
  clear hx hb h
  have HCP := Lib.hid (copy_any S0.out.st (by omega : n ≤ 100000))
  have hnw := HS.out.st.nb.2.1
  obtain ⟨W, hW⟩ : ∃ W, W = (((w.alloc (.cells #[.int .u64 (gr : Int), .int .u64 (now : Int), .int .u64 (last : Int), .slice q n5 c] 57)).alloc (.cells #[.int .i64 what, .int .i64 t, .int .u64 (a : Int)] 34)).alloc (.cells #[.int .u64 0, .int .u64 0, .int .u64 0, .slice none 0 0] 57)) := ⟨_, rfl⟩
  rw [← hW] at SX HB S0 HCP hwl
  have HW := Lib.hid hW
  clear hW
  have e0 : (what == 0) = false := by simpa using h6 0 (by decide) (by decide)
  have e1 : (what == 1) = false := by simpa using h6 1 (by decide) (by decide)
  have e2 : (what == 2) = false := by simpa using h6 2 (by decide) (by decide)
  have e3 : (what == 3) = false := by simpa using h6 3 (by decide) (by decide)
  have e4 : (what == 4) = false := by simpa using h6 4 (by decide) (by decide)
  have e5 : (what == 5) = false := by simpa using h6 5 (by decide) (by decide)
  clear h6
  obtain ⟨mm, hmm⟩ : ∃ mm, mm = min 9 (18446744073709551615 - now) := ⟨_, rfl⟩
  have s1 : IntKind.u64.wrap (18446744073709551615 - (now : Int)) = 18446744073709551615 - (now : Int) := IntWalk.u64_in _ (by omega)
  have s2 : min (9 : Int) (18446744073709551615 - (now : Int)) = (mm : Int) := by omega
  have s3 : IntKind.u64.wrap ((now : Int) + (mm : Int)) = ((now + mm : Nat) : Int) := by
    have : ((now + mm : Nat) : Int) = (now : Int) + (mm : Int) := by omega
    rw [this]
    exact IntWalk.u64_in _ (by omega)
  have hb5 : now + mm ≤ 18446744073709551615 := by omega
  generalize now + mm = bb at *
  clear hmm
  go_enter Try.func31, Try.ntmps31
  go_wp2_with fail
  rw [← HW.out]
  have cells := SX.out.cells
  refine HCP.out.mono ?_
  rintro e w1 ⟨g', O', rfl, hst', hO', b1⟩
  have ST1 := Lib.hid (S0.out.st.below b1)
  have HC1 := Lib.hid hst'
  have HO1 := Lib.hid hO'
  have B1 := Lib.hid b1
  have SX1 := Lib.hid (SX.out.below b1)
  clear hst' hO' b1 HCP HW cells
  have HH : Hid (Calls Try.prog 25 #[.pointer (some ⟨g, 0, none⟩), .int .i64 0, .int .u64 (now : Int)] w1 (HardP w1 O g gr (max now now) last n 0 d)) := hard_ok ST1.out 0 (by decide) (by omega) now hnw (by omega)
  rw [Nat.max_self] at HH
  go_wp2_with (go_at_call 23; refine (now_any ST1.out).mono ?_; rintro e w' ⟨rfl, rfl⟩)
  refine HH.out.mono ?_
  rintro e w2 ⟨rfl, O2, s2', g2'⟩
  have ST2 := Lib.hid s2'
  have G2 := Lib.hid g2'
  have HSO : Hid (Calls Try.prog 26 #[.pointer (some ⟨g, 0, none⟩), .int .i64 1, .int .u64 (bb : Int)] w2 (SoftP w2 O2 g gr (max now bb) (last + 1 + 1) (n + 1) 1 (hardD gr now (last + 1) 0 d))) := soft_ok ST2.out 1 (by decide) (by omega) bb hb5 (by omega)
  clear s2' g2' HH
  go_wp2_with (go_at_call 23; refine (now_any ST2.out).mono ?_; rintro e w' ⟨rfl, rfl⟩)
  refine HSO.out.mono ?_
  rintro e w3 ⟨rfl, O3, s3', g3'⟩
  have ST3 := Lib.hid s3'
  have G3 := Lib.hid g3'
  generalize softD gr (max now bb) (last + 1 + 1) 1 (hardD gr now (last + 1) 0 d) = d3 at *
  have HFO : Hid (Calls Try.prog 17 #[.pointer (some ⟨g, 0, none⟩), .int .i64 2] w3 (FgP w3 O3 g gr (max now bb) (last + 1 + 1) (n + 1 + 1) 2 (fgE 2 d3) d3)) := forget_ok ST3.out 2 (by decide)
  clear s3' g3' HSO
  go_wp2_with fail
  refine HFO.out.mono ?_
  rintro e w4 ⟨rfl, s4, o4⟩
  have G4 := Lib.hid ((G2.out.trans G3.out).only.trans o4 (fun z hz => (G2.out.trans G3.out).new z hz))
  clear s4 o4 HFO
  have SX4 := Lib.hid (SX1.out.only G4.out (fun x hx => .inl (hOlt.out x hx)))
  have STC := Lib.hid (HC1.out.other G4.out (fun x hx hx2 => by have := HO1.out x hx; have := hOlt.out x hx2; omega))
  have GC : Hid (Goes W O w4 O') := ⟨(Only.of_below B1.out O).trans G4.out (fun z hz => .inl hz), fun x hx => .inr (HO1.out x hx)⟩
  have D4 := Lib.hid (SX4.out.below ((Below.refl _ _).drew : Below w4.heap.size w4 w4.drew))
  obtain ⟨⟨k0, k1, k2, k3⟩, _, ⟨u0, u1, u2, u3⟩⟩ := SX4.out.cells
  have uf := SX4.out.br.frozen
  obtain ⟨⟨m0, m1, m2, m3⟩, _, ⟨r0, r1, r2, r3⟩⟩ := D4.out.cells
  have rf := D4.out.br.frozen
  go_wp2_with fail
  go_region
  all_goals
    go_wp2_with fail
    obtain ⟨ho, e0, e1, e2, e3⟩ := D4.out.ret (gr : Int) (now : Int) (last : Int) (.slice q n5 c)
    obtain ⟨_, e0, e1, e2, e3⟩ := SX4.out.ret (gr : Int) (now : Int) (last : Int) (.slice q n5 c)
    obtain ⟨f1, f2⟩ := HS.out.go (w3 := _) HB.out (DocV.refl S0.out.li) S0.out.ln S0.out.un (STC.out.below ((Below.refl _ _).drew : Below w4.heap.size w4 w4.drew)) (⟨GC.out.only.trans (Only.of_below ((Below.refl _ _).drew : Below w4.heap.size w4 w4.drew) (fun _ => False)) (fun _ h => h.elim), GC.out.new⟩ : Goes W O w4.drew O') HS.out.iv (ho.more (fun x hx => .inl ⟨hx.1, by omega⟩))
    exact bodyPost_ret (v := .tuple #[.pointer (some ⟨g', 0, none⟩), mV (gr : Int) (now : Int) (last : Int) (.slice q n5 c), .bool true]) (by simp [results, Try.results31, go_sem, e0, e1, e2, e3]) rfl ⟨g', now, last, n, q, n5, c, E, _, O', rfl, f1, f2, Nat.le_succ _, Nat.le_succ _⟩
end Go.Proofs.Ytckdfnlleaifcaa
