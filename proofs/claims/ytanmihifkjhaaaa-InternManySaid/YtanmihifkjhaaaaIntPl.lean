/- InternPlays. -/
import Derived.Test.YtanmihifkjhaaaaRefG
import Derived.Test.YtanmihifkjhaaaaRefC
import Derived.Deep.CutBlock
namespace Go.Proofs.Ytanmihifkjhaaaa
set_option linter.unusedVariables false
open Go.RowKit Go.Maps Go.Sort

theorem Pl.of {V w : World} {A b : Nat} {most seed : Int} (k : K1 V w (fun _ => False) b most seed 0 []) (hA : A = w.heap.size) : Pl V (w.alloc (.cells #[.int .i64 most, .slice none 0 0] 31)) (fun _ => False) A b most seed 0 none 0 [] ∧ (Value.slice none 0 0).ownBlock ≠ some A := by
  subst hA
  refine ⟨⟨k.keep ((Below.refl _ _).alloc (Nat.le_refl _) _) (fun g hg => ?_), Blk.new _ _ _, World.ownsRow_nil _ _ _ _, k.bel.size⟩, by simp [Value.ownBlock]⟩
  rcases hg with h | h | h
  · exact .inr ⟨by omega, by simp; omega⟩
  · simp [Value.ownBlock] at h
  · exact h.elim
theorem Pl.other {V w w' : World} {S : Nat → Prop} {A b b2 : Nat} {most seed R R' : Int} {p : Option Addr} {cap : Nat} {l l2 : Nms} (h : Pl V w S A b most seed R p cap l)
    (k : K2 V w' (fun g => g = A ∨ (Value.slice p l.length cap).ownBlock = some g ∨ S g) b b2 most seed seed R' l2 l) (o : Only (fun g => ¬ (g = A ∨ (Value.slice p l.length cap).ownBlock = some g ∨ S g)) w w') : Pl V w' S A b2 most seed R' p cap l :=
  ⟨k.swap.one, Blk.only h.bx o (fun hn => hn (.inl rfl)), ownsRow_only h.rf o (fun g hg hn => hn (.inr (.inl hg))), h.hV⟩
set_option maxHeartbeats 8000000 in
set_option maxRecDepth 100000 in
theorem plays_some (most : Int) (hm : 1 ≤ most) (hm2 : most ≤ 65536) (q : Option Addr) (cap : Nat) (L : List Ac) (hL : L.length ≤ 60) (hL2 : ∀ X ∈ L, X.2.2.size ≤ 100) (w : World) (hR : ActsOf w q L)
    (HF : Hid (Calls Try.prog 18 #[.slice q L.length cap] w fun e w' => e = .returned (.bool true) ∧ w = w')) :
    Calls Try.prog 7 #[.int .i64 most, .slice q L.length cap] w fun e w' => e = .returned (.bool true) ∧ Below w.heap.size w w' := by
  have HL := Lib.hid hL
  have HL2 := Lib.hid hL2
  have HRR := Lib.hid hR
  clear hL hL2 hR
  go_enter Try.func7, Try.ntmps7
  go_wp2_with (go_at_call 18; refine HF.out.mono ?_; rintro e w1 ⟨rfl, rfl⟩)
  refine (K1.start w w (Below.refl _ _) most 5 hm hm2 (by decide) (by decide)).mono ?_
  rintro e w1 ⟨b, rfl, k1, b1⟩
  have K0 := Lib.hid k1
  clear k1 b1 HF
  go_wp2_with fail
  obtain ⟨A, hA⟩ : ∃ A, w1.heap.size = A := ⟨_, rfl⟩
  rw [hA]
  obtain ⟨p0, n0⟩ := Pl.of (A := A) K0.out hA.symm
  have P0 := Lib.hid p0
  have N0 := Lib.hid n0
  clear p0 n0 K0 hA
  generalize w1.alloc (.cells #[.int .i64 most, .slice none 0 0] 31) = W0 at *
  go_loopg [5, 8] L.length (fun r t i wr => ∃ (k b : Nat) (l : Nms) (p : Option Addr) (c : Nat), k ≤ L.length ∧ r + k = L.length ∧ t = .pointer (some ⟨b, 0, none⟩) ∧ i = .int .i64 k ∧ Pl w wr (fun _ => False) A b most 5 k p c l ∧ (Value.slice p l.length c).ownBlock ≠ some A)
  case atStart => exact ⟨0, b, [], none, 0, by omega, by omega, rfl, rfl, P0.out, N0.out⟩
  case round =>
    clear P0 N0
    obtain ⟨k, b, l, p, c, hk, hr, rfl, rfl, hp, hn⟩ := hrel
    have HR := Lib.hid hr
    have P1 := Lib.hid hp
    have N1 := Lib.hid hn
    have RR := Lib.hid (HRR.out.below hp.k.bel)
    have h60 := HL.out
    clear hr hp hn
    by_cases hlt : k < L.length
    · obtain ⟨X, hX⟩ : ∃ X, L[k]? = some X := ⟨L[k], List.getElem?_eq_getElem hlt⟩
      have hXs := HL2.out X (List.mem_of_getElem? hX)
      obtain ⟨blk, off, rfl, hb, c0, c1, c2⟩ := RR.out k X hX
      obtain ⟨a, n, S⟩ := X
      simp only at c0 c1 c2 hXs
      clear hX
      go_upto_block 2 with (fail)
      clear c0 c1 c2
      have hbl : Below wr.heap.size wr (wr.alloc (.cells #[.int .i64 a, .int .i64 n, .string S] 47)) := (Below.refl _ _).alloc (Nat.le_refl _) _
      have HBE : Hid (Blk (wr.alloc (.cells #[.int .i64 a, .int .i64 n, .string S] 47)) wr.heap.size 47 #[.int .i64 a, .int .i64 n, .string S]) := Blk.new _ _ _
      have P2 := Lib.hid (P1.out.keep hbl (S' := fun g => g = wr.heap.size) (fun g hg => .inr ⟨by omega, by simp; omega⟩))
      obtain ⟨E, hE⟩ : ∃ E, wr.heap.size = E := ⟨_, rfl⟩
      rw [hE] at HBE P2 ⊢
      have HEA : Hid (E ≠ A) := fun e => by have := Blk.lt P1.out.bx; omega
      clear hE P1 RR hb hbl
      generalize wr.alloc (.cells #[.int .i64 a, .int .i64 n, .string S] 47) = W1 at *
      go_cut [5] (fun s5 wx => ∃ (b' : Nat) (p' : Option Addr) (c' : Nat), s5 = .pointer (some ⟨b', 0, none⟩) ∧ Pl w wx (fun g => g = E) A b' most 5 (k + 1 : Nat) p' c' (stepA most l (a, n, S)) ∧ (Value.slice p' (stepA most l (a, n, S)).length c').ownBlock ≠ some A ∧ Blk wx E 47 #[.int .i64 a, .int .i64 n, .string S])
      case first =>
        have d0 := Blk.cell HBE.out 0
        have d1 := Blk.cell HBE.out 1
        have d2 := Blk.cell HBE.out 2
        have e0 := Blk.cell P2.out.bx 0
        have e1 := Blk.cell P2.out.bx 1
        simp only [List.getElem?_toArray, List.getElem?_cons_zero, List.getElem?_cons_succ] at d0 d1 d2 e0 e1
        have hlow := P2.out.low hm2
        have hwf := Lib.hid P2.out.k.wf
        by_cases h0 : a = 0
        · subst h0
          have HS : Hid (stepA most l (0, n, S) = (addM most l S.data.toList).1) := by unfold Hid stepA; rw [if_pos rfl]
          have HA := Lib.hid (radd_any P2.out.rf hwf.out (by omega) (by omega) S)
          go_wp2_with fail
          refine HA.out.mono ?_
          rintro e w2 hr
          obtain ⟨q', cq, rfl, b2, pn⟩ := Pl.ref P2.out N1.out hr
          have PN := Lib.hid pn
          have HBE2 := Lib.hid ((Blk.below HBE.out b2 (Blk.lt HBE.out)).alloc (.cells #[.int .i64 most, .slice q' (addM most l S.data.toList).1.length cq] 31))
          have d2 := Blk.cell (Blk.below HBE.out b2 (Blk.lt HBE.out)) 2
          have d3 := Blk.cell HBE2.out 2
          simp only [List.getElem?_toArray, List.getElem?_cons_zero, List.getElem?_cons_succ] at d2 d3
          have HC := Lib.hid (pn.k.adds hm hm2 (by omega) (by omega) S (by omega))
          clear HA hr pn e0 e1 d0 d1
          go_wp2_with fail
          refine HC.out.mono ?_
          rintro e w3 ⟨rfl, k3, o3⟩
          have PN3 := Lib.hid (PN.out.turn k3 o3)
          have HBE3 := Lib.hid (Blk.only HBE2.out o3 (fun hn => hn (.inr (.inr (.inr rfl)))))
          obtain ⟨g0, g1, g2, g3, g4, g5⟩ := PN3.out.cells
          obtain ⟨x0, y0, hx⟩ := PN3.out.bx
          have g6 := Blk.cell hx 0
          have g7 := Blk.cell hx 1
          simp only [List.getElem?_toArray, List.getElem?_cons_zero, List.getElem?_cons_succ] at g6 g7
          have hAE := PN3.out.ne
          have hAE2 : ¬ w2.heap.size = A := fun e => hAE e.symm
          clear k3 o3 HC PN HBE2 d2 d3 hx g4 g5
          go_wp2_with fail
          go_meet
          obtain ⟨f1, f2⟩ := PN3.out.done
          rw [HS.out]
          exact ⟨b, q', cq, rfl, f1, f2, Blk.far (p := ⟨A, 1, none⟩) (Blk.far (p := ⟨A, 0, none⟩) HBE3.out HEA.out (.int .i64 most)) HEA.out _⟩
        · by_cases h1 : a = 1
          · subst h1
            have HS : Hid (stepA most l (1, n, S) = (relM l n).1) := by unfold Hid stepA; rw [if_neg (show ¬ (1 : Int) = 0 by decide), if_pos rfl]
            have HA := Lib.hid (rrel_any P2.out.rf hwf.out (by omega) (by omega) n)
            go_wp2_with fail
            refine HA.out.mono ?_
            rintro e w2 hr
            obtain ⟨q', cq, rfl, b2, pn⟩ := Pl.ref P2.out N1.out hr
            have PN := Lib.hid pn
            have HBE2 := Lib.hid ((Blk.below HBE.out b2 (Blk.lt HBE.out)).alloc (.cells #[.int .i64 most, .slice q' (relM l n).1.length cq] 31))
            have d2 := Blk.cell (Blk.below HBE.out b2 (Blk.lt HBE.out)) 1
            have d3 := Blk.cell HBE2.out 1
            simp only [List.getElem?_toArray, List.getElem?_cons_zero, List.getElem?_cons_succ] at d2 d3
            have HC := Lib.hid (pn.k.frees hm (by omega) n)
            clear HA hr pn e0 e1 d0 d1
            go_wp2_with fail
            refine HC.out.mono ?_
            rintro e w3 ⟨rfl, k3, o3⟩
            have PN3 := Lib.hid (PN.out.turn (k3.grow (R' := (k + 1 : Nat)) (by omega)) o3)
            have HBE3 := Lib.hid (Blk.only HBE2.out o3 (fun hn => hn (.inr (.inr (.inr rfl)))))
            obtain ⟨g0, g1, g2, g3, g4, g5⟩ := PN3.out.cells
            obtain ⟨x0, y0, hx⟩ := PN3.out.bx
            have g6 := Blk.cell hx 0
            have g7 := Blk.cell hx 1
            simp only [List.getElem?_toArray, List.getElem?_cons_zero, List.getElem?_cons_succ] at g6 g7
            have hAE := PN3.out.ne
            have hAE2 : ¬ w2.heap.size = A := fun e => hAE e.symm
            clear k3 o3 HC PN HBE2 d2 d3 hx g4 g5
            go_wp2_with fail
            go_meet
            obtain ⟨f1, f2⟩ := PN3.out.done
            rw [HS.out]
            exact ⟨b, q', cq, rfl, f1, f2, Blk.far (p := ⟨A, 1, none⟩) (Blk.far (p := ⟨A, 0, none⟩) HBE3.out HEA.out (.int .i64 most)) HEA.out _⟩
          · have HS : Hid (stepA most l (a, n, S) = l) := by unfold Hid stepA; rw [if_neg h0, if_neg h1]
            go_wp2_with fail
            refine (P2.out.k.copy hm).mono ?_
            rintro e w2 ⟨b2, rfl, k2, bb2⟩
            have P3 := Lib.hid (P2.out.below bb2)
            have HBE2 := Lib.hid (Blk.below HBE.out bb2 (Blk.lt HBE.out))
            have HC := Lib.hid (k2.add hm hm2 (by omega) (by omega) ⟨#[111, 116, 104, 101, 114]⟩ (by decide))
            clear k2 bb2 e0 e1 d0 d1 d2
            go_wp2_with fail
            refine HC.out.mono ?_
            rintro e w3 ⟨rfl, k3, o3⟩
            have HC2 := Lib.hid (k3.rel hm (by omega) 0)
            have O3 := Lib.hid o3
            clear HC k3 o3
            generalize (addM most l (⟨#[111, 116, 104, 101, 114]⟩ : ByteArray).data.toList).2.1 = N3
            generalize (addM most l (⟨#[111, 116, 104, 101, 114]⟩ : ByteArray).data.toList).2.2 = E3
            go_wp2_with fail
            refine HC2.out.mono ?_
            rintro e w4 ⟨rfl, k4, o4⟩
            have P4 := Lib.hid (P3.out.other (k4.grow (R' := (k + 1 : Nat)) (by omega)) (O3.out.trans o4 (fun g h => .inl h)))
            have HBE4 := Lib.hid (Blk.only HBE2.out (O3.out.trans o4 (fun g h => .inl h)) (fun hn => hn (.inr (.inr rfl))))
            clear HC2 k4 o4 O3
            go_wp2_with fail
            go_meet
            rw [HS.out]
            exact ⟨b2, p, c, rfl, P4.out, N1.out, HBE4.out⟩
      case rest =>
        obtain ⟨b', p', c', rfl, hp, hn, hbe⟩ := hcut
        have P5 := Lib.hid hp
        have N5 := Lib.hid hn
        have e0 := Blk.cell hp.bx 0
        have e1 := Blk.cell hp.bx 1
        have d1 := Blk.cell hbe 1
        have d2 := Blk.cell hbe 2
        simp only [List.getElem?_toArray, List.getElem?_cons_zero, List.getElem?_cons_succ] at d1 d2 e0 e1
        have hlow := hp.low hm2
        have HI := Lib.hid (is_any hm hp.k.kt hp.rf (fun w' h => rnames_any h (by omega) most) S (by omega) n)
        clear hp hn hbe P2 N1 HBE
        generalize stepA most l (a, n, S) = l' at *
        go_wp2_with fail
        refine HI.out.mono ?_
        rintro e w6 ⟨rfl, b6⟩
        have P6 := Lib.hid ((P5.out.below b6).keep (Below.refl _ _) (S' := fun _ => False) (fun g h => h.elim))
        clear HI b6 P5 e0 e1 d1 d2
        go_wp2_with fail
        go_roundg (gk - 1)
        case measure => have := HR.out; omega
        case rel => exact ⟨k + 1, b', l', p', c', by omega, by have := HR.out; omega, rfl, by go_num, P6.out, N5.out⟩
    · obtain rfl : k = L.length := by omega
      go_wp2_with fail
      refine (known_any _).mono ?_
      rintro e w3 ⟨rfl, b3⟩
      have P6 := Lib.hid (P1.out.below b3)
      clear b3 P1
      go_wp2_with fail
      go_ret
      exact ⟨rfl, P6.out.k.bel⟩
set_option maxHeartbeats 2000000 in
set_option maxRecDepth 100000 in
theorem plays_known (most : Int) (q : Option Addr) (cap N : Nat) (w : World) (h : most < 1 ∨ 65536 < most ∨ Hid (Calls Try.prog 18 #[.slice q N cap] w fun e w' => e = .returned (.bool false) ∧ w = w')) :
    Calls Try.prog 7 #[.int .i64 most, .slice q N cap] w fun e w' => e = .returned (.bool true) ∧ Below w.heap.size w w' := by
  by_cases h1 : most < 1
  · clear h
    go_enter Try.func7, Try.ntmps7
    go_wp2_with fail
    refine (known_any _).mono ?_
    rintro e w1 ⟨rfl, b1⟩
    go_wp2_with fail
    go_ret
    exact ⟨rfl, b1⟩
  · by_cases h2 : 65536 < most
    · clear h
      go_enter Try.func7, Try.ntmps7
      go_wp2_with fail
      refine (known_any _).mono ?_
      rintro e w1 ⟨rfl, b1⟩
      go_wp2_with fail
      go_ret
      exact ⟨rfl, b1⟩
    · have HF := (h.resolve_left h1).resolve_left h2
      clear h
      go_enter Try.func7, Try.ntmps7
      go_wp2_with (go_at_call 18; refine HF.out.mono ?_; rintro e w1 ⟨rfl, rfl⟩)
      refine (known_any _).mono ?_
      rintro e w1 ⟨rfl, b1⟩
      go_wp2_with fail
      go_ret
      exact ⟨rfl, b1⟩
theorem plays_walk (most : Int) (q : Option Addr) (cap : Nat) (L : List Ac) (w : World) (hR : ActsOf w q L) :
    Calls Try.prog 7 #[.int .i64 most, .slice q L.length cap] w fun e w' => e = .returned (.bool true) ∧ Below w.heap.size w w' := by
  by_cases h1 : most < 1
  · exact plays_known most q cap L.length w (.inl h1)
  · by_cases h2 : 65536 < most
    · exact plays_known most q cap L.length w (.inr (.inl h2))
    · have hf := few_any q cap L w hR
      unfold FewP at hf
      rcases Bool.eq_false_or_eq_true (fewR L) with hb | hb
      · rw [hb] at hf
        have hb := fewR_true hb
        exact plays_some most (by omega) (by omega) q cap L hb.1 hb.2 w hR (Lib.hid hf)
      · rw [hb] at hf
        exact plays_known most q cap L.length w (.inr (.inr (Lib.hid hf)))
end Go.Proofs.Ytanmihifkjhaaaa
