/- StampHolds. -/
import Derived.Test.YtckdfnlleaifcaaStmR
import Derived.Deep.CutBlock
import Derived.BigQuiet
namespace Go.Proofs.Ytckdfnlleaifcaa
set_option linter.unusedVariables false
open Go.RowKit Go.Maps Go.Sort

set_option maxHeartbeats 8000000 in
set_option maxRecDepth 100000 in
theorem holds_some (gr : Nat) (hg : gr ≤ 1099511627776) (q : Option Addr) (cap : Nat) (L : List SAc) (hL : L.length ≤ 50) (hL2 : ∀ X ∈ L, 0 ≤ X.2.2 ∧ X.2.2 ≤ 18446744073709551615) (tag : Nat) (ht : tag < 65536) (w : World) (hR : SActsOf w q L) :
    Calls Try.prog 3 #[.int .u64 (gr : Int), .slice q L.length cap, .int .i64 (tag : Int)] w fun e w' => e = .returned (.bool true) ∧ Below w.heap.size w w' := by
  have HL := Lib.hid hL
  have HL2 := Lib.hid hL2
  have HRR := Lib.hid hR
  have HT := Lib.hid ht
  have HG := Lib.hid hg
  have CF := few_any q cap L.length (by omega) w
  have CG := rgrace_any gr w
  have CT := rtag_any (tag : Int) w
  rw [decide_eq_true hL] at CF
  rw [decide_eq_true hg] at CG
  rw [show tagB (tag : Int) = true by unfold tagB; simp; omega] at CT
  have CF := Lib.hid CF
  have CG := Lib.hid CG
  have CT := Lib.hid CT
  clear hL hL2 hR ht hg
  go_enter Try.func3, Try.ntmps3
  go_wp2_with (first
    | (go_at_call 9; refine CF.out.mono ?_; rintro e w1 ⟨rfl, rfl⟩)
    | (go_at_call 8; refine CG.out.mono ?_; rintro e w1 ⟨rfl, rfl⟩)
    | (go_at_call 10; refine CT.out.mono ?_; rintro e w1 ⟨rfl, rfl⟩))
  refine (Ks.start (Below.refl _ _) gr HG.out).mono ?_
  rintro e w1 ⟨g1, rfl, k1⟩
  have K1 := Lib.hid k1
  clear k1 CF CG CT
  go_wp2_with fail
  refine (Dd.start2 K1.out HG.out).mono ?_
  rintro e W0 ⟨g2, rfl, k2⟩
  have K2 := Lib.hid k2
  clear k2 K1
  go_wp2_with fail
  go_loopg [11, 12] L.length (fun r s11 i wr => ∃ (k a last : Nat) (e1 e2 : List Tg), k ≤ L.length ∧ r + k = L.length ∧ last ≤ k ∧ s11 = .int .u64 (last : Int) ∧ i = .int .i64 (k : Int) ∧ Dd w wr (fun _ => False) g1 g2 gr a last a last (2 * k) e1 e2 ∧ getT tag e1 = getT tag e2)
  case atStart => exact ⟨0, 0, 0, [], [], by omega, by omega, by omega, rfl, rfl, K2.out, rfl⟩
  case round =>
    clear K2
    obtain ⟨k, a, last, e1, e2, hk, hr, hla, rfl, rfl, hd, he⟩ := hrel
    have HRK := Lib.hid hr
    have DD := Lib.hid hd
    have HE := Lib.hid he
    have RR := Lib.hid (HRR.out.below hd.bel)
    have h50 := HL.out
    clear hr hd he
    by_cases hlt : k < L.length
    · obtain ⟨X, hX⟩ : ∃ X, L[k]? = some X := ⟨L[k], List.getElem?_eq_getElem hlt⟩
      have hXs := HL2.out X (List.mem_of_getElem? hX)
      obtain ⟨blk, off, rfl, hb, c0, c1, c2⟩ := RR.out k X hX
      obtain ⟨what, t, A0⟩ := X
      simp only at c0 c1 c2 hXs
      obtain ⟨A, rfl⟩ : ∃ A : Nat, A0 = (A : Int) := ⟨A0.toNat, by omega⟩
      have HA : Hid (A ≤ 18446744073709551615) := by have := hXs.2; unfold Hid; omega
      clear hX hXs
      go_upto_block 2 with (fail)
      clear c0 c1 c2
      have HBE : Hid (Blk (wr.alloc (.cells #[.int .i64 what, .int .i64 t, .int .u64 (A : Int)] 34)) wr.heap.size 34 #[.int .i64 what, .int .i64 t, .int .u64 (A : Int)]) := Blk.new _ _ _
      have D2 := Lib.hid (DD.out.keep (S' := fun x => x = wr.heap.size) ((Below.refl _ _).alloc (Nat.le_refl _) (.cells #[.int .i64 what, .int .i64 t, .int .u64 (A : Int)] 34)) (fun x hx => .inr ⟨by omega, by simp; omega⟩))
      have HU := Lib.hid DD.out.ups
      obtain ⟨E, hE⟩ : ∃ E, wr.heap.size = E := ⟨_, rfl⟩
      rw [hE] at HBE D2 ⊢
      clear hE DD RR hb
      generalize wr.alloc (.cells #[.int .i64 what, .int .i64 t, .int .u64 (A : Int)] 34) = W1 at *
      have hw : IntKind.u64.wrap ((last : Int) + 1) = ((last + 1 : Nat) : Int) := IntWalk.u64_in _ (by omega)
      obtain ⟨L1, hL1⟩ : ∃ L1, L1 = last + 1 := ⟨_, rfl⟩
      rw [← hL1] at hw
      have HL1 := Lib.hid hL1
      have hL1b : L1 ≤ k + 1 := by omega
      clear hL1
      go_cut [11] (fun s11 wx => ∃ (a' l' : Nat) (e1' e2' : List Tg), l' ≤ k + 1 ∧ s11 = .int .u64 (l' : Int) ∧ Dd w wx (fun _ => False) g1 g2 gr a' l' a' l' (2 * k + 2) e1' e2' ∧ getT tag e1' = getT tag e2')
      case first => as_aux_lemma =>
        have d0 := Blk.cell HBE.out 0
        have d1 := Blk.cell HBE.out 1
        have d2 := Blk.cell HBE.out 2
        simp only [List.getElem?_toArray, List.getElem?_cons_zero, List.getElem?_cons_succ] at d0 d1 d2
        by_cases h01 : what = 0 ∨ what = 1
        · cases hT : tagB t
          · skip
            have hok : callOk what t = false := by unfold callOk; rw [hT]; rcases h01 with rfl | rfl <;> rfl
            have HC := Lib.hid (D2.out.callsBad what t hok A)
            have HTG := Lib.hid (fun w => rtag_any t w)
            rw [hT] at HTG
            clear hT hok
            rcases h01 with rfl | rfl
            all_goals
              go_wp2_with fail
              refine HC.out.mono ?_
              rintro e w2 ⟨rfl, b2⟩
              have D3 := Lib.hid (D2.out.below b2)
              have B3 := Lib.hid (HBE.out.below b2 HBE.out.lt)
              have f0 := Blk.cell B3.out 0
              have f1 := Blk.cell B3.out 1
              have f2 := Blk.cell B3.out 2
              simp only [List.getElem?_toArray, List.getElem?_cons_zero, List.getElem?_cons_succ] at f0 f1 f2
              clear d0 d1 d2 HC b2
              go_wp2_with (go_at_call 10; refine (HTG.out _).mono ?_; rintro e w' ⟨rfl, rfl⟩)
              go_meet
              exact ⟨a, last, e1, e2, by omega, rfl, D3.out.free.grow (by omega), HE.out⟩
          · obtain ⟨j, rfl, hj, _⟩ := tagB_nat hT
            have HOK : Hid (callOk what (j : Int) = true) := by unfold Hid callOk; rw [hT]; rfl
            have HC := Lib.hid (D2.out.calls what (j : Int) HOK.out (by omega) A HA.out (by omega))
            have HTG := Lib.hid (fun w => rtag_any (j : Int) w)
            rw [hT] at HTG
            rw [← HL1.out] at HC
            clear hT
            by_cases hjt : j = tag
            · subst hjt
              rcases h01 with rfl | rfl
              · skip
                go_wp2_with fail
                refine HC.out.mono ?_
                rintro e w2 ⟨rfl, dd, o2⟩
                have D3 := Lib.hid dd
                have B3 := Lib.hid (HBE.out.only o2 (fun hn => hn rfl))
                have f0 := Blk.cell B3.out 0
                have f1 := Blk.cell B3.out 1
                have f2 := Blk.cell B3.out 2
                simp only [List.getElem?_toArray, List.getElem?_cons_zero, List.getElem?_cons_succ] at f0 f1 f2
                have HC2 := Lib.hid (D3.out.swap.calls 0 (j : Int) HOK.out (by omega) A HA.out (by omega))
                rw [← HL1.out] at HC2
                clear d0 d1 d2 HC dd o2
                go_wp2_with (first | (go_at_call 10; refine (HTG.out _).mono ?_; rintro e w' ⟨rfl, rfl⟩) | (go_at_call 14; refine (gives_same _ _ _).mono ?_; rintro e w' ⟨rfl, rfl⟩))
                refine HC2.out.mono ?_
                rintro e w3 ⟨rfl, dd, o3⟩
                have D4 := Lib.hid dd.swap
                clear HC2 dd o3 f0 f1 f2
                go_wp2_with (go_at_call 14; refine (gives_same _ _ _).mono ?_; rintro e w' ⟨rfl, rfl⟩)
                go_meet
                exact ⟨max a A, L1, _, _, by omega, rfl, D4.out.free.grow (by omega), call_same _ HE.out HU.out.1 HU.out.2.1⟩
              · skip
                go_wp2_with fail
                refine HC.out.mono ?_
                rintro e w2 ⟨rfl, dd, o2⟩
                have D3 := Lib.hid dd
                have B3 := Lib.hid (HBE.out.only o2 (fun hn => hn rfl))
                have f0 := Blk.cell B3.out 0
                have f1 := Blk.cell B3.out 1
                have f2 := Blk.cell B3.out 2
                simp only [List.getElem?_toArray, List.getElem?_cons_zero, List.getElem?_cons_succ] at f0 f1 f2
                have HC2 := Lib.hid (D3.out.swap.calls 1 (j : Int) HOK.out (by omega) A HA.out (by omega))
                rw [← HL1.out] at HC2
                clear d0 d1 d2 HC dd o2
                go_wp2_with (first | (go_at_call 10; refine (HTG.out _).mono ?_; rintro e w' ⟨rfl, rfl⟩) | (go_at_call 14; refine (gives_same _ _ _).mono ?_; rintro e w' ⟨rfl, rfl⟩))
                refine HC2.out.mono ?_
                rintro e w3 ⟨rfl, dd, o3⟩
                have D4 := Lib.hid dd.swap
                clear HC2 dd o3 f0 f1 f2
                go_wp2_with (go_at_call 14; refine (gives_same _ _ _).mono ?_; rintro e w' ⟨rfl, rfl⟩)
                go_meet
                exact ⟨max a A, L1, _, _, by omega, rfl, D4.out.free.grow (by omega), call_same _ HE.out HU.out.1 HU.out.2.1⟩
            · have hne : ((j : Int) == (tag : Int)) = false := by simp; omega
              rcases h01 with rfl | rfl
              · skip
                go_wp2_with fail
                refine HC.out.mono ?_
                rintro e w2 ⟨rfl, dd, o2⟩
                have D3 := Lib.hid dd
                have B3 := Lib.hid (HBE.out.only o2 (fun hn => hn rfl))
                have f0 := Blk.cell B3.out 0
                have f1 := Blk.cell B3.out 1
                have f2 := Blk.cell B3.out 2
                simp only [List.getElem?_toArray, List.getElem?_cons_zero, List.getElem?_cons_succ] at f0 f1 f2
                have HC2 := Lib.hid (D3.out.swap.other (by omega) A HA.out)
                rw [← HL1.out] at HC2
                clear d0 d1 d2 HC dd o2
                go_wp2_with (first | (go_at_call 10; refine (HTG.out _).mono ?_; rintro e w' ⟨rfl, rfl⟩) | (go_at_call 14; refine (gives_same _ _ _).mono ?_; rintro e w' ⟨rfl, rfl⟩))
                refine HC2.out.mono ?_
                rintro e w3 ⟨rfl, dd, o3⟩
                have D4 := Lib.hid dd.swap
                clear HC2 dd o3 f0 f1 f2
                go_wp2_with (go_at_call 14; refine (gives_same _ _ _).mono ?_; rintro e w' ⟨rfl, rfl⟩)
                go_meet
                exact ⟨max a A, L1, _, _, by omega, rfl, D4.out.free.grow (by omega), call_other _ j hjt HE.out⟩
              · skip
                go_wp2_with fail
                refine HC.out.mono ?_
                rintro e w2 ⟨rfl, dd, o2⟩
                have D3 := Lib.hid dd
                have B3 := Lib.hid (HBE.out.only o2 (fun hn => hn rfl))
                have f0 := Blk.cell B3.out 0
                have f1 := Blk.cell B3.out 1
                have f2 := Blk.cell B3.out 2
                simp only [List.getElem?_toArray, List.getElem?_cons_zero, List.getElem?_cons_succ] at f0 f1 f2
                have HC2 := Lib.hid (D3.out.swap.other (by omega) A HA.out)
                rw [← HL1.out] at HC2
                clear d0 d1 d2 HC dd o2
                go_wp2_with (first | (go_at_call 10; refine (HTG.out _).mono ?_; rintro e w' ⟨rfl, rfl⟩) | (go_at_call 14; refine (gives_same _ _ _).mono ?_; rintro e w' ⟨rfl, rfl⟩))
                refine HC2.out.mono ?_
                rintro e w3 ⟨rfl, dd, o3⟩
                have D4 := Lib.hid dd.swap
                clear HC2 dd o3 f0 f1 f2
                go_wp2_with (go_at_call 14; refine (gives_same _ _ _).mono ?_; rintro e w' ⟨rfl, rfl⟩)
                go_meet
                exact ⟨max a A, L1, _, _, by omega, rfl, D4.out.free.grow (by omega), call_other _ j hjt HE.out⟩
        · by_cases h2 : what = 2
          · subst h2
            have HC := Lib.hid (D2.out.calls 2 t (by unfold callOk; simp) (by omega) A HA.out (by omega))
            have HTG := Lib.hid (fun w => rtag_any t w)
            rw [← HL1.out] at HC
            clear h01
            generalize tagB t = T at *
            go_wp2_with fail
            refine HC.out.mono ?_
            rintro e w2 ⟨rfl, dd, o2⟩
            have D3 := Lib.hid dd
            have B3 := Lib.hid (HBE.out.only o2 (fun hn => hn rfl))
            have f0 := Blk.cell B3.out 0
            have f1 := Blk.cell B3.out 1
            have f2 := Blk.cell B3.out 2
            simp only [List.getElem?_toArray, List.getElem?_cons_zero, List.getElem?_cons_succ] at f0 f1 f2
            have HC2 := Lib.hid (D3.out.swap.other (by omega) A HA.out)
            rw [← HL1.out] at HC2
            clear d0 d1 d2 HC dd o2
            cases T
            all_goals
              go_wp2_with (first | (go_at_call 10; refine (HTG.out _).mono ?_; rintro e w' ⟨rfl, rfl⟩) | (go_at_call 14; refine (gives_same _ _ _).mono ?_; rintro e w' ⟨rfl, rfl⟩))
              refine HC2.out.mono ?_
              rintro e w3 ⟨rfl, dd, o3⟩
              have D4 := Lib.hid dd.swap
              clear HC2 dd o3 f0 f1 f2
              go_wp2_with (go_at_call 14; refine (gives_same _ _ _).mono ?_; rintro e w' ⟨rfl, rfl⟩)
              go_meet
              exact ⟨max a A, L1, _, _, by omega, rfl, D4.out.free.grow (by omega), call_two _ HE.out⟩
          · by_cases h3 : what = 3
            · subst h3
              have HC := Lib.hid (D2.out.adv A HA.out)
              clear h01 h2
              go_wp2_with fail
              refine HC.out.mono ?_
              rintro e w2 ⟨rfl, dd, o2⟩
              have D3 := Lib.hid dd
              have B3 := Lib.hid (HBE.out.only o2 (fun hn => hn rfl))
              have f0 := Blk.cell B3.out 0
              have f1 := Blk.cell B3.out 1
              have f2 := Blk.cell B3.out 2
              simp only [List.getElem?_toArray, List.getElem?_cons_zero, List.getElem?_cons_succ] at f0 f1 f2
              have HC2 := Lib.hid (D3.out.swap.adv A HA.out)
              clear d0 d1 d2 HC dd o2
              go_wp2_with fail
              refine HC2.out.mono ?_
              rintro e w3 ⟨rfl, dd, o3⟩
              have D4 := Lib.hid dd.swap
              clear HC2 dd o3 f0 f1 f2
              go_wp2_with fail
              go_meet
              exact ⟨max a A, last, _, _, by omega, rfl, D4.out.free.grow (by omega), get_adv_eq HE.out⟩
            · by_cases h4 : what = 4
              · subst h4
                clear h01 h2 h3
                cases hT : tagB t
                · have HC := Lib.hid (D2.out.forgetBad t hT)
                  have hne : (t == (tag : Int)) = false := by
                    have hb := HT.out
                    unfold tagB at hT
                    simp only [Bool.and_eq_false_iff, decide_eq_false_iff_not] at hT
                    simp only [beq_eq_false_iff_ne, ne_eq]
                    omega
                  clear hT
                  go_wp2_with fail
                  refine HC.out.mono ?_
                  rintro e w2 ⟨rfl, rfl⟩
                  go_wp2_with fail
                  go_meet
                  exact ⟨a, last, e1, e2, by omega, rfl, D2.out.free.grow (by omega), HE.out⟩
                · obtain ⟨j, rfl, hj, _⟩ := tagB_nat hT
                  have HC := Lib.hid (D2.out.forget j hj)
                  clear hT
                  by_cases hjt : j = tag
                  · subst hjt
                    go_wp2_with fail
                    refine HC.out.mono ?_
                    rintro e w2 ⟨rfl, dd, o2⟩
                    have D3 := Lib.hid dd
                    have B3 := Lib.hid (HBE.out.only o2 (fun hn => hn rfl))
                    have f0 := Blk.cell B3.out 0
                    have f1 := Blk.cell B3.out 1
                    have f2 := Blk.cell B3.out 2
                    simp only [List.getElem?_toArray, List.getElem?_cons_zero, List.getElem?_cons_succ] at f0 f1 f2
                    have HC2 := Lib.hid (D3.out.swap.forget j hj)
                    rw [← fgE_eq HE.out] at HC2
                    clear d0 d1 d2 HC dd o2
                    generalize fgE j e1 = F at *
                    go_wp2_with fail
                    refine HC2.out.mono ?_
                    rintro e w3 ⟨rfl, dd, o3⟩
                    have D4 := Lib.hid dd.swap
                    clear HC2 dd o3 f0 f1 f2
                    go_wp2_with fail
                    go_meet
                    exact ⟨a, last, _, _, by omega, rfl, D4.out.free.grow (by omega), del_same HE.out⟩
                  · have hne : ((j : Int) == (tag : Int)) = false := by simp; omega
                    go_wp2_with fail
                    refine HC.out.mono ?_
                    rintro e w2 ⟨rfl, dd, o2⟩
                    have D3 := Lib.hid dd
                    have B3 := Lib.hid (HBE.out.only o2 (fun hn => hn rfl))
                    have f0 := Blk.cell B3.out 0
                    have f1 := Blk.cell B3.out 1
                    have f2 := Blk.cell B3.out 2
                    simp only [List.getElem?_toArray, List.getElem?_cons_zero, List.getElem?_cons_succ] at f0 f1 f2
                    clear d0 d1 d2 HC dd o2
                    generalize fgE j e1 = F at *
                    go_wp2_with fail
                    go_meet
                    exact ⟨a, last, _, _, by omega, rfl, D3.out.free.grow (by omega), del_other j hjt HE.out⟩
              · have h5 : (what == 0) = false := by simp only [beq_eq_false_iff_ne, ne_eq]; omega
                have h6 : (what == 1) = false := by simp only [beq_eq_false_iff_ne, ne_eq]; omega
                have h7 : (what == 2) = false := by simp only [beq_eq_false_iff_ne, ne_eq]; omega
                have h8 : (what == 3) = false := by simp only [beq_eq_false_iff_ne, ne_eq]; omega
                have h9 : (what == 4) = false := by simp only [beq_eq_false_iff_ne, ne_eq]; omega
                clear h01 h2 h3 h4
                go_wp2_with fail
                go_meet
                exact ⟨a, last, e1, e2, by omega, rfl, D2.out.free.grow (by omega), HE.out⟩
      case rest =>
        clear HBE D2 hw HL1 hL1b hla HU
        obtain ⟨a', l', d1, d2, hl', rfl, hd, he⟩ := hcut
        have DD := Lib.hid hd
        have HE := Lib.hid he
        have HC := Lib.hid (hd.of tag HT.out (by omega))
        clear hd he
        go_wp2_with fail
        refine HC.out.mono ?_
        rintro e w2 ⟨qs, cs, rfl, hs, hz, dd⟩
        have D3 := Lib.hid dd
        have HS := Lib.hid hs
        clear hs hz dd HC DD
        go_wp2_with fail
        obtain ⟨p, hp⟩ : ∃ p, knownP tag d1 = p := ⟨_, rfl⟩
        rw [hp] at D3 HS ⊢
        have hp2 : knownP tag d2 = p := by rw [← known_eq HE.out]; exact hp
        have hb := (Below.refl w2.heap.size w2).alloc (Nat.le_refl _) (.cells #[.int .i64 (tag : Int), .int .u64 (p.hard : Int), .slice qs p.soft.length cs] 43)
        have HC2 := Lib.hid ((D3.out.swap.below hb).ofL tag HT.out (by omega) p hp2 _ (HS.out.below hb) (fun z hz => hz))
        clear D3 HS hp hp2 hb
        refine HC2.out.mono ?_
        rintro e w3 ⟨rfl, dd, o3⟩
        have D4 := Lib.hid dd.swap
        clear dd o3 HC2
        go_wp2_with (go_at_call 20; refine D4.out.last.mono ?_; rintro e w' ⟨rfl, rfl⟩)
        refine (D4.out.list (by omega)).mono ?_
        rintro e w5 ⟨ql, E5, cl, rfl, hu, hl, dd⟩
        have D5 := Lib.hid dd
        have HLA := Lib.hid hl
        have HY := Lib.hid dd.young.1
        have HUN := Lib.hid hu
        have hsm := hl.small.1
        have HG5 := Lib.hid dd.ups.2.2
        obtain ⟨G, hG⟩ : ∃ G, gk = G := ⟨_, rfl⟩
        rw [hG] at HRK
        obtain ⟨n5, hn5⟩ : ∃ n5, n5 = E5.length := ⟨_, rfl⟩
        rw [← hn5] at hsm ⊢
        have HN5 := Lib.hid hn5
        have HGG := Lib.hid hG
        clear hG dd hu hl D4 hn5
        go_wp2_with fail
        go_loopg [20] n5 (fun r2 s20 wr2 => ∃ i : Nat, r2 + i = n5 ∧ s20 = .int .i64 (i : Int) ∧ Below w5.heap.size w5 wr2)
        case atStart => exact ⟨0, rfl, rfl, Below.refl _ _⟩
        case round => as_aux_lemma =>
          obtain ⟨i, hi, rfl, hbr⟩ := hrel
          have HI := Lib.hid hi
          have hil : i ≤ n5 := by omega
          have HBR := Lib.hid hbr
          clear hi
          by_cases hli : i < n5
          · obtain ⟨x, hx⟩ : ∃ x, E5[i]? = some x := ⟨E5[i]'(by rw [← HN5.out]; exact hli), List.getElem?_eq_getElem _⟩
            have hxm := List.mem_of_getElem? hx
            have HSA := Lib.hid (HLA.out.soft x hxm)
            have hm5 := HLA.out.small.2 x hxm
            have HYX := Lib.hid (HY.out x.x (by rw [← HUN.out]; exact List.mem_map.2 ⟨x, hxm, rfl⟩))
            obtain ⟨_, _, d2'⟩ := evCells_get hx
            obtain ⟨⟨xt, ⟨ph, ps⟩⟩, xv⟩ := x
            obtain ⟨p6, c6, hv6, _⟩ := HSA.out.form
            dsimp only at hv6
            subst hv6
            dsimp only at HSA hm5 HYX d2'
            have HF := Lib.hid (fun (W : World) (hb : Below w5.heap.size w5 W) => RowAt.at (HLA.out.row.below hb) (by rw [← HN5.out]; omega))
            rw [← HN5.out] at HF
            clear hbr hx hxm
            obtain ⟨m, hm⟩ : ∃ m, m = ps.length := ⟨_, rfl⟩
            have HM := Lib.hid hm
            rw [← hm] at hm5 d2'
            clear hm
            obtain ⟨G2, hG2⟩ : ∃ G2, gk = G2 := ⟨_, rfl⟩
            rw [hG2] at HI
            have HGG2 := Lib.hid hG2
            clear hG2
            go_wp2_with fail
            go_loopg [21] m (fun r3 s21 wr3 => ∃ j : Nat, r3 + j = m ∧ s21 = .int .i64 (j : Int) ∧ Below w5.heap.size w5 wr3)
            case atStart => exact ⟨0, rfl, rfl, HBR.out⟩
            case round =>
              clear HBR
              obtain ⟨j, hj, rfl, hbr⟩ := hrel
              have HJ := Lib.hid hj
              have hjm : j ≤ m := by omega
              have HBR := Lib.hid hbr
              clear hj
              obtain ⟨g5, o5, c5, he5, _, _, hcell⟩ := HF.out wr hbr
              injection he5 with h1 h2 h3
              subst h1 h3
              have f2 := hcell _ _ d2'
              rw [← Nat.add_assoc] at f2
              by_cases hlj : j < m
              · obtain ⟨y, hy⟩ : ∃ y, ps[j]? = some y := ⟨ps[j]'(by rw [← HM.out]; exact hlj), List.getElem?_eq_getElem _⟩
                obtain ⟨ho, hy2⟩ := HYX.out y (List.mem_of_getElem? hy)
                obtain ⟨g6, o6, c7, he6, _, _, hcell6⟩ := RowAt.at (HSA.out.below hbr) (by rw [← HM.out]; omega)
                injection he6 with h4 h5 h6
                subst h4 h6
                obtain ⟨_, s1⟩ := softCells_get hy
                have f3 := hcell6 _ _ s1
                rw [← Nat.add_assoc] at f3
                obtain ⟨ys, yt⟩ := y
                dsimp only at ho hy2 f3
                have HNW := Lib.hid (fun nn : Nat => calls_flip ((D5.out.below (below_drewN hbr nn)).now))
                have HOV := Lib.hid (fun W : World => calls_flip (rover_any yt gr a' hy2 W))
                rw [ho] at HOV
                clear ho hy s1 hcell6 hcell hbr d2' h2 h5
                go_wp2_with fail
                go_quiet ((first
                  | (go_at_call 23; refine Calls.quiet_of_same (HNW.out _))
                  | (go_at_call 22; refine Calls.quiet_of_same (HOV.out _))))
                go_wp2_with fail
                go_roundg (gk - 1)
                case measure => have := HJ.out; omega
                case rel => exact ⟨j + 1, by have := HJ.out; omega, by go_num, below_drewN HBR.out _⟩
              · obtain rfl : j = m := by omega
                clear hcell hbr
                go_wp2_with fail
                go_roundg (G2 - 1)
                case measure => have := HI.out; have := HGG2.out; omega
                case rel => exact ⟨i + 1, by have := HI.out; omega, by go_num, HBR.out⟩
          · obtain rfl : i = n5 := by omega
            clear hbr
            go_wp2_with fail
            go_roundg (G - 1)
            case measure => have := HRK.out; have := HGG.out; omega
            case rel => exact ⟨k + 1, a', l', d1, d2, by omega, by have := HRK.out; omega, hl', rfl, by go_num, (D5.out.below HBR.out).grow (by omega), HE.out⟩
    · obtain rfl : k = L.length := by omega
      have HB := Lib.hid DD.out.bel
      go_wp2_with fail
      refine (known_any _).mono ?_
      rintro e w2 ⟨rfl, b2⟩
      go_wp2_with fail
      go_ret
      exact ⟨rfl, HB.out.trans (b2.mono HB.out.size)⟩
end Go.Proofs.Ytckdfnlleaifcaa
