/- The law's `is`. -/
import Derived.Test.YtckdfnlleaifcaaStmV
import Derived.Deep.DeepCutAuto
namespace Go.Proofs.Ytckdfnlleaifcaa
set_option linter.unusedVariables false
open Go.RowKit Go.Maps Go.Sort

def IsP (w : World) (O : Nat → Prop) (g gr now last n : Nat) (d : List Tg) (e : Ending) (w' : World) : Prop := e = .returned (.bool true) ∧ St w' g gr now last n d O ∧ Only O w w'
set_option maxHeartbeats 8000000 in
set_option maxRecDepth 100000 in
theorem is_any {w : World} {O : Nat → Prop} {g gr now last n cap : Nat} {d : List Tg} {p : Option Addr} {E : List Ev} (h : St w g gr now last n d O) (hl : ListAt w (.slice p E.length cap) E) (hE : unE E = d)
    (h1 : ∀ z, (Value.slice p E.length cap).ownBlock = some z → ¬ O z) (h2 : ∀ e ∈ E, ∀ z, e.v.ownBlock = some z → ¬ O z) (t : Int) (hn : n ≤ 100000) :
    Calls Try.prog 24 #[.pointer (some ⟨g, 0, none⟩), mV gr now last (.slice p E.length cap), .int .i64 t] w (IsP w O g gr now last n d) := by
  have hB := (Below.refl w.heap.size w).alloc (Nat.le_refl _) (.cells #[.int .u64 (gr : Int), .int .u64 (now : Int), .int .u64 (last : Int), .slice p E.length cap] 57)
  have J0 : Hid (Ik (w.alloc (.cells #[.int .u64 (gr : Int), .int .u64 (now : Int), .int .u64 (last : Int), .slice p E.length cap] 57)) O g gr now last n d w.heap.size p cap E) := ⟨h.below hB, hl.below hB, hE, Blk.new _ _ _, (fun ho => by have := h.lt ho; omega), h1, h2⟩
  have HB := Lib.hid hB
  obtain ⟨c0, c1, c2, c3⟩ := J0.out.cells
  have hs := hl.small.1
  have hdl : d.length = E.length := by rw [← hE]; unfold unE; rw [List.length_map]
  have HDL := Lib.hid hdl
  clear h hl hE h1 h2 hB hdl
  go_enter Try.func24, Try.ntmps24
  go_wp2_with fail
  obtain ⟨A, hA⟩ : ∃ A, w.heap.size = A := ⟨_, rfl⟩
  rw [hA] at J0 c0 c1 c2 c3
  simp only [hA]
  have HA := Lib.hid hA
  clear hA
  generalize w.alloc (.cells #[.int .u64 (gr : Int), .int .u64 (now : Int), .int .u64 (last : Int), .slice p E.length cap] 57) = W at *
  have J0d : Hid (Ik W.drew O g gr now last n d A p cap E) := J0.out.below ((Below.refl _ _).drew)
  go_region_held3 (fun w' => w'.cell? ⟨A, 0, none⟩ = some (.int .u64 (gr : Int)) ∧ w'.cell? ⟨A, 1, none⟩ = some (.int .u64 (now : Int)) ∧ w'.cell? ⟨A, 2, none⟩ = some (.int .u64 (last : Int)) ∧ w'.cell? ⟨A, 3, none⟩ = some (.slice p E.length cap)) (go_keep) (first
    | (go_at_call 20; refine (last_any J0d.out.st).mono ?_; rintro e w1 ⟨rfl, rfl⟩)
    | (go_at_call 23; refine (now_any J0d.out.st).mono ?_; rintro e w1 ⟨rfl, rfl⟩)
    | (go_at_call 29; refine (grace_any J0d.out.st).mono ?_; rintro e w1 ⟨rfl, rfl⟩)
    | (go_at_call 21; refine (list_law J0d.out.st hn).mono ?_; rintro e w3 ⟨p3, c3', E3, rfl, u3, l3, z3, y3, s3, o3⟩; have J3 := Lib.hid (J0d.out.turn s3 o3); obtain ⟨k30, k31, k32, k33⟩ := J3.out.cells)
    | (go_at_call 34; refine (sameAll_any l3 J3.out.li (u3.trans J3.out.un.symm)).mono ?_; rintro e w5 ⟨rfl, b5⟩; have J5 := Lib.hid (J3.out.below b5); obtain ⟨k50, k51, k52, k53⟩ := J5.out.cells))
  rename_i hHeld
  have OW : Hid (Only O w w5) := ((Only.of_below HB.out O).trans ((Only.of_below ((Below.refl W.heap.size W).drew) O : Only O W W.drew).trans o3 (fun z hz => .inl hz)) (fun z hz => .inl hz)).trans (Only.of_below b5 (fun _ => False)) (fun _ h => h.elim)
  have HT := Lib.hid (tags_any J5.out.st hn)
  clear c0 c1 c2 c3 u3 l3 z3 y3 s3 o3 J3 k30 k31 k32 k33 k50 k51 k52 k53 hHeld b5 J0 J0d HB
  go_wp2_with fail
  refine HT.out.mono ?_
  rintro e w6 ⟨v6, rfl, ow6, b6⟩
  have e6 : (tagI d).length = E.length := by unfold tagI; rw [List.length_map]; exact HDL.out
  rw [e6] at ow6
  obtain ⟨p6, c6, rfl⟩ := own_form ow6
  have J6 := Lib.hid (J5.out.below b6)
  have O6 := Lib.hid ow6
  have OW6 : Hid (Only O w w6) := OW.out.trans (Only.of_below b6 (fun _ => False)) (fun _ h => h.elim)
  obtain ⟨k0, k1, k2, k3⟩ := J6.out.cells
  clear HT ow6 b6 e6 J5 OW
  go_wp2_with fail
  clear k0 k1 k2 k3
  go_loopg [8] E.length (fun r s8 wr => ∃ i : Nat, r + i = E.length ∧ s8 = .int .i64 (i : Int) ∧ Below w6.heap.size w6 wr)
  case atStart => exact ⟨0, rfl, rfl, Below.refl _ _⟩
  case round =>
    obtain ⟨i, hi, rfl, hbr⟩ := hrel
    have HI := Lib.hid hi
    have hil : i ≤ E.length := by omega
    have HBR := Lib.hid hbr
    have J := Lib.hid (J6.out.below hbr)
    obtain ⟨k0, k1, k2, k3⟩ := J.out.cells
    clear hi
    by_cases hlt : i < E.length
    · clear k0 k1 k2
      obtain ⟨ev, hev⟩ : ∃ ev, E[i]? = some ev := ⟨E[i], List.getElem?_eq_getElem hlt⟩
      have hd : ((tagI d).map (Value.int .i64))[i]? = some (.int .i64 (ev.x.tag : Int)) := by
        rw [← J.out.un]
        unfold tagI unE
        simp [hev]
      obtain ⟨g7, o7, c7, he7, _, _, hcell7⟩ := (RowAt.of_own (O6.out)).below hbr |>.at (by omega)
      injection he7 with q1 q2 q3
      subst q1 q3
      have f7 := hcell7 _ _ hd
      obtain ⟨g8, o8, c8, he8, _, _, hcell8⟩ := J.out.li.row.at (by omega)
      injection he8 with q4 q5 q6
      subst q4 q6
      obtain ⟨d0, _, _⟩ := evCells_get hev
      have f8 := hcell8 _ _ d0
      clear hcell7 hcell8 d0 hd hev q2 q5 hbr
      go_wp2_with fail
      go_quiet (fail)
      go_wp2_with fail
      go_roundg (gk - 1)
      case measure => have := HI.out; omega
      case rel => exact ⟨i + 1, by have := HI.out; omega, by go_num, below_drewN HBR.out _⟩
    · obtain rfl : i = E.length := by omega
      have HTG := Lib.hid (fun w => rtag_any t w)
      have OWr : Hid (Only O w wr) := OW6.out.trans (Only.of_below hbr (fun _ => False)) (fun _ h => h.elim)
      clear hbr O6 HI HBR J6 OW6
      cases hT : tagB t
      · have HC1 := Lib.hid (ofl_bad J.out.st t hT)
        have HC2 := Lib.hid (fun (w' : World) (hb : Below wr.heap.size wr w') => firstl_bad (J.out.st.below hb) t hT)
        rw [hT] at HTG
        clear hT
        go_wp2_with (go_at_call 10; refine (HTG.out _).mono ?_; rintro e w' ⟨rfl, rfl⟩)
        refine HC1.out.mono ?_
        rintro e w7 ⟨rfl, b7⟩
        have B7 := Lib.hid b7
        go_wp2_with (go_at_call 27; refine (HC2.out _ b7).mono ?_; rintro e w' ⟨rfl, rfl⟩)
        go_ret
        exact ⟨rfl, J.out.st.below B7.out, OWr.out.trans (Only.of_below B7.out (fun _ => False)) (fun _ h => h.elim)⟩
      · obtain ⟨k, rfl, hk, _⟩ := tagB_nat hT
        have HO := Lib.hid (rof_any J.out.li J.out.up gr now last k)
        rw [J.out.un] at HO
        rw [hT] at HTG
        have hkn := J.out.kn hn k
        clear hT
        generalize hP : knownP k d = P at *
        have HP := Lib.hid hP
        clear hP
        go_wp2_with (go_at_call 10; refine (HTG.out _).mono ?_; rintro e w' ⟨rfl, rfl⟩)
        refine HO.out.mono ?_
        rintro e w7 ⟨q7, c7, B7, rfl, ow7, hB7, b7⟩
        have hb8 := (Below.refl w7.heap.size w7).alloc (Nat.le_refl _) (.cells #[.int .i64 (k : Int), .int .u64 (P.hard : Int), .slice q7 P.soft.length c7] 43)
        have X0 : Hid (Ix (w7.alloc (.cells #[.int .i64 (k : Int), .int .u64 (P.hard : Int), .slice q7 P.soft.length c7] 43)) O g gr now last n d A p cap E w7.heap.size k P q7 c7) :=
          ⟨(J.out.below b7).below hb8, Blk.new _ _ _, (RowAt.of_own ow7).below hb8, (fun ho => by have := (J.out.below b7).st.lt ho; omega), fun z hz ho => by have := J.out.st.lt ho; have := (ow7.lt z hz).1; omega⟩
        have OW8 : Hid (Only O w (w7.alloc (.cells #[.int .i64 (k : Int), .int .u64 (P.hard : Int), .slice q7 P.soft.length c7] 43))) := (OWr.out.trans (Only.of_below b7 (fun _ => False)) (fun _ h => h.elim)).alloc _
        clear ow7 b7 hB7 hb8 HO HTG k0 k1 k2 k3
        go_wp2_with fail
        obtain ⟨X, hX⟩ : ∃ X, w7.heap.size = X := ⟨_, rfl⟩
        rw [hX] at X0 ⊢
        clear hX
        generalize w7.alloc (.cells #[.int .i64 (k : Int), .int .u64 (P.hard : Int), .slice q7 P.soft.length c7] 43) = W8 at *
        go_loopg [10] 4 (fun r s10 wr => ∃ i : Nat, r + i = 4 ∧ s10 = .int .u64 (i : Int) ∧ Ix wr O g gr now last n d A p cap E X k P q7 c7 ∧ Only O w wr)
        case atStart => exact ⟨0, rfl, rfl, X0.out, OW8.out⟩
        case round =>
          clear X0 OW8
          obtain ⟨i, hi, rfl, hix, how⟩ := hrel
          have HI := Lib.hid hi
          have hi4 : i ≤ 4 := by omega
          have IX := Lib.hid hix
          have OW := Lib.hid how
          obtain ⟨k0, k1, k2, k3⟩ := hix.ik.cells
          have y0 := Blk.cell hix.xb 0
          have y1 := Blk.cell hix.xb 1
          have y2 := Blk.cell hix.xb 2
          simp only [List.getElem?_toArray, List.getElem?_cons_zero, List.getElem?_cons_succ] at y0 y1 y2
          clear hi hix how
          by_cases hlt : i < 4
          · have hlt2 : decide ((i : Int) < 4) = true := decide_eq_true (by omega)
            obtain ⟨N1, hw1⟩ : ∃ N1 : Nat, IntKind.u64.wrap ((P.hard : Int) + (i : Int)) = (N1 : Int) := ⟨_, (Int.toNat_of_nonneg (wrap_u64_nonneg _)).symm⟩
            obtain ⟨N2, hw2⟩ : ∃ N2 : Nat, IntKind.u64.wrap ((last : Int) - min (last : Int) (i : Int)) = (N2 : Int) := ⟨_, (Int.toNat_of_nonneg (wrap_u64_nonneg _)).symm⟩
            have hw3 : IntKind.u64.wrap ((i : Int) + 1) = (i : Int) + 1 := IntWalk.u64_in _ (by omega)
            go_wp2_with fail
            have Y0 : Hid (Blk (wr.alloc (.cells #[.int .u64 (i : Int), .int .u64 (N1 : Int), .int .u64 (N2 : Int)] 22)) wr.heap.size 22 #[.int .u64 (i : Int), .int .u64 (N1 : Int), .int .u64 (N2 : Int)]) := Blk.new _ _ _
            have hb9 := (Below.refl wr.heap.size wr).alloc (Nat.le_refl _) (.cells #[.int .u64 (i : Int), .int .u64 (N1 : Int), .int .u64 (N2 : Int)] 22)
            have IX9 := Lib.hid (IX.out.below hb9)
            have OW9 := Lib.hid (OW.out.alloc (.cells #[.int .u64 (i : Int), .int .u64 (N1 : Int), .int .u64 (N2 : Int)] 22))
            have HYO : Hid (¬ O wr.heap.size) := fun ho => by have := IX.out.ik.st.lt ho; omega
            clear k0 k1 k2 k3 y0 y1 y2 IX OW hb9 hw1 hw2
            obtain ⟨Y, hY⟩ : ∃ Y, wr.heap.size = Y := ⟨_, rfl⟩
            rw [hY] at Y0 HYO ⊢
            clear hY
            generalize wr.alloc (.cells #[.int .u64 (i : Int), .int .u64 (N1 : Int), .int .u64 (N2 : Int)] 22) = W9 at *
            obtain ⟨G2, hG2⟩ : ∃ G2, gk = G2 := ⟨_, rfl⟩
            have HGG2 := Lib.hid hG2
            clear hG2
            go_loopg [100] 3 (fun r s100 wr3 => ∃ j : Nat, r + j = 3 ∧ s100 = .int .i64 (j : Int) ∧ Ix wr3 O g gr now last n d A p cap E X k P q7 c7 ∧ Only O w wr3 ∧ Blk wr3 Y 22 #[.int .u64 (i : Int), .int .u64 (N1 : Int), .int .u64 (N2 : Int)])
            case atStart => exact ⟨0, rfl, rfl, IX9.out, OW9.out, Y0.out⟩
            case round =>
              clear IX9 OW9 Y0
              obtain ⟨j, hj, rfl, hix, how, hy⟩ := hrel
              have HJ := Lib.hid hj
              have hj3 : j ≤ 3 := by omega
              have IX := Lib.hid hix
              have OW := Lib.hid how
              have HYB := Lib.hid hy
              obtain ⟨k0, k1, k2, k3⟩ := hix.ik.cells
              clear hj how
              by_cases hlj : j < 3
              · obtain ⟨N, hN⟩ : ∃ N : Nat, wr.cell? ⟨Y, j, none⟩ = some (.int .u64 (N : Int)) := by
                  rcases (by omega : j = 0 ∨ j = 1 ∨ j = 2) with rfl | rfl | rfl
                  · exact ⟨i, hy.cell 0⟩
                  · exact ⟨N1, hy.cell 1⟩
                  · exact ⟨N2, hy.cell 2⟩
                have HR := Lib.hid (rfirst_any hix.ik.li hix.ik.up gr now last k N (by rw [hix.ik.un, HP.out]; exact hkn))
                rw [hix.ik.un, HP.out] at HR
                clear hix hy
                go_wp2_with fail
                refine HR.out.mono ?_
                rintro e w10 ⟨rfl, b10⟩
                have IX2 := Lib.hid (IX.out.below b10)
                have OW2 : Hid (Only O w w10) := OW.out.trans (Only.of_below b10 (fun _ => False)) (fun _ h => h.elim)
                have HYB2 := Lib.hid (HYB.out.below b10 HYB.out.lt)
                have HC := Lib.hid (first_law IX2.out.ik.st k hk hn N (firstM N P.soft) (by rw [HP.out]))
                generalize firstM N P.soft = R at *
                obtain ⟨R1, R2⟩ := R
                clear HR b10 IX OW HYB k0 k1 k2 k3 hN
                go_wp2_with fail
                refine HC.out.mono ?_
                rintro e w11 ⟨rfl, s11, o11⟩
                have IX3 := Lib.hid (IX2.out.turn s11 o11)
                have OW3 : Hid (Only O w w11) := OW2.out.trans o11 (fun z hz => .inl hz)
                have HYB3 := Lib.hid (HYB2.out.only o11 HYO.out)
                clear IX2 OW2 HYB2 s11 o11 HC
                go_wp2_with fail
                go_roundg (gk - 1)
                case measure => have := HJ.out; omega
                case rel => exact ⟨j + 1, by have := HJ.out; omega, by go_num, IX3.out, OW3.out, HYB3.out⟩
              · obtain rfl : j = 3 := by omega
                clear hix hy k0 k1 k2 k3
                go_wp2_with fail
                go_roundg (G2 - 1)
                case measure => have := HI.out; have := HGG2.out; omega
                case rel => exact ⟨i + 1, by have := HI.out; have := HGG2.out; omega, by go_num, IX.out, OW.out⟩
          · obtain rfl : i = 4 := by omega
            have HC := Lib.hid (of_law IX.out.ik.st k hk hn P HP.out _ IX.out.xs IX.out.so)
            clear IX k0 k1 k2 k3
            go_wp2_with fail
            refine HC.out.mono ?_
            rintro e w11 ⟨rfl, s11, o11⟩
            have S11 := Lib.hid s11
            have O11 := Lib.hid o11
            clear s11 o11 HC y0 y1 y2
            go_wp2_with fail
            go_ret
            exact ⟨rfl, S11.out, OW.out.trans O11.out (fun z hz => .inl hz)⟩
end Go.Proofs.Ytckdfnlleaifcaa
