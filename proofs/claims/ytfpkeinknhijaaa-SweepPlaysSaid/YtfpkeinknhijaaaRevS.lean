/- ReverseHolds, for all arguments. -/
import Derived.Test.YtfpkeinknhijaaaRevJ
import Derived.Deep.CutBlock
namespace Go.Proofs.Ytfpkeinknhijaaa
set_option linter.unusedVariables false
open Go.RowKit Go.Maps Go.Sort

theorem u64_nat (z : Int) : ∃ k : Nat, IntKind.u64.wrap z = (k : Int) ∧ k ≤ 18446744073709551615 := by
  refine ⟨(IntKind.u64.wrap z).toNat, ?_, ?_⟩ <;> (rw [IntKind.wrap_u64]; omega)
set_option maxHeartbeats 4000000 in
set_option maxRecDepth 100000 in
theorem rholds_most (most : Int) (hm : ¬ (1 ≤ most ∧ most ≤ 65536)) (q : Option Addr) (n cap : Nat) (w : World) :
    Calls Try.prog 3 #[.int .i64 most, .slice q n cap] w fun e w' => e = .returned (.bool true) ∧ Below w.heap.size w w' := by
  by_cases h1 : most < 1
  · go_enter Try.func3, Try.ntmps3
    go_wp2_with fail
    refine (rknown_any _).mono ?_
    rintro e w2 ⟨rfl, b2⟩
    go_wp2_with fail
    go_ret
    exact ⟨rfl, b2⟩
  · have h2 : 65536 < most := by omega
    go_enter Try.func3, Try.ntmps3
    go_wp2_with fail
    refine (rknown_any _).mono ?_
    rintro e w2 ⟨rfl, b2⟩
    go_wp2_with fail
    go_ret
    exact ⟨rfl, b2⟩
set_option maxHeartbeats 4000000 in
set_option maxRecDepth 100000 in
theorem rholds_few (most : Int) (hm1 : 1 ≤ most) (hm2 : most ≤ 65536) (q : Option Addr) (cap : Nat) (L : List Ra) (w : World) (hR : RActs w q L) (hf : fewB L = false) :
    Calls Try.prog 3 #[.int .i64 most, .slice q L.length cap] w fun e w' => e = .returned (.bool true) ∧ Below w.heap.size w w' := by
  have HF := few_any q cap L w hR
  unfold FewP at HF
  rw [hf] at HF
  have HF := Lib.hid HF
  have h1 : ¬ most < 1 := by omega
  have h2 : ¬ 65536 < most := by omega
  clear hR hf
  generalize L.length = N at *
  go_enter Try.func3, Try.ntmps3
  go_wp2_with (go_at_call 10; refine HF.out.mono ?_; rintro e w1 ⟨rfl, rfl⟩)
  refine (rknown_any _).mono ?_
  rintro e w2 ⟨rfl, b2⟩
  go_wp2_with fail
  go_ret
  exact ⟨rfl, b2⟩
theorem meas_lt {a b k N : Nat} (h1 : a + k = N) (h2 : b = a) (h3 : k < N) : a - 1 < b := by omega
theorem meas_eq {a k N : Nat} (h1 : a + k = N) (h3 : k < N) : a - 1 + (k + 1) = N := by omega
/-- Between two rounds. -/
def Rr (W wr : World) (x y : Nat) (most : Int) (k : Nat) (q : Option Addr) (nA c : Nat) (AL : List Nat) (dx dy : Dx) : Prop :=
  K2 W wr (bkv (.slice q nA c)) x 1 dx y 2 dy most (32 * k : Nat) (32 * k) ∧ Eqx dx dy ∧ wr.ownsRow W.heap.size 29 1 (.slice q nA c) nA (idsV AL) ∧ nA = AL.length ∧ AL.length ≤ k ∧ ∀ u ∈ AL, u ≤ 18446744073709551615
set_option maxHeartbeats 16000000 in
set_option maxRecDepth 100000 in
theorem rholds_some (most : Int) (hm1 : 1 ≤ most) (hm2 : most ≤ 65536) (q0 : Option Addr) (cap : Nat) (L : List Ra) (w : World) (hR : RActs w q0 L) (hf : fewB L = true) :
    Calls Try.prog 3 #[.int .i64 most, .slice q0 L.length cap] w fun e w' => e = .returned (.bool true) ∧ Below w.heap.size w w' := by
  have hF := few_any q0 cap L w hR
  unfold FewP at hF
  rw [hf] at hF
  obtain ⟨h40, hL⟩ := fewB_yes hf
  have HRR := Lib.hid hR
  have HL := Lib.hid hL
  have h1 : ¬ most < 1 := by omega
  have h2 : ¬ 65536 < most := by omega
  obtain ⟨N, hN⟩ : ∃ N, L.length = N := ⟨_, rfl⟩
  have HN := Lib.hid hN
  rw [hN] at hF h40 ⊢
  have HF := Lib.hid hF
  obtain ⟨iu, hiu, hpu⟩ := Option.map_eq_some_iff.1 u64Info
  have hu0 : iu.zero = some (.int .u64 0) := congrArg (·.1) hpu
  have hu1 : iu.size = 1 := congrArg (·.2.1) hpu
  have hu2 : iu.bytes = 8 := congrArg (·.2.2) hpu
  clear hR hf hL hN hpu hF
  go_enter Try.func3, Try.ntmps3
  go_wp2_with (go_at_call 10; refine HF.out.mono ?_; rintro e w1 ⟨rfl, rfl⟩; clear HF)
  refine (Kr.start w w (Below.refl _ _) most 1 hm1 hm2 (by decide) (by decide)).mono ?_
  rintro e w1 ⟨x, rfl, k1, _⟩
  have K1 := Lib.hid k1
  clear k1
  go_wp2_with fail
  refine (K1.out.start2 2 hm1 hm2 (by decide) (by decide)).mono ?_
  rintro e w2 ⟨y, rfl, k2⟩
  have KK := Lib.hid k2
  clear k2 K1
  go_wp2_with fail
  go_loopg [9, 10, 11] N (fun r s9 s10 s11 wr => ∃ (k lst : Nat) (q : Option Addr) (nA c : Nat) (AL : List Nat) (dx dy : Dx), r + k = N ∧ s11 = .int .i64 (k : Int) ∧ s9 = .int .u64 (lst : Int) ∧ s10 = .slice q nA c ∧ Rr w wr x y most k q nA c AL dx dy)
  case atStart => exact ⟨0, 0, none, 0, 0, [], _, _, by omega, rfl, rfl, rfl, KK.out.less (fun g h => by simp [bkv, Value.ownBlock] at h), ⟨rfl, rfl⟩, World.ownsRow_nil _ _ _ _, rfl, Nat.le_refl _, fun u hu => (by cases hu)⟩
  case round =>
    clear KK
    obtain ⟨k, lst, q, nA, c, AL, dx, dy, hk, rfl, rfl, rfl, hkk, hee, hrow, hal1, hal2, hal3⟩ := hrel
    have HK := Lib.hid hk
    have P := Lib.hid hkk
    have HE := Lib.hid hee
    have ROW := Lib.hid hrow
    have HAL := Lib.hid (And.intro hal1 hal3)
    have hnk : nA ≤ k := by omega
    have hkN : k ≤ N := by omega
    clear hk hkk hee hrow hal1 hal2 hal3
    by_cases hlt : k < N
    · obtain ⟨X, hX⟩ : ∃ X, L[k]? = some X := ⟨_, List.getElem?_eq_getElem (by rw [HN.out]; exact hlt)⟩
      have hXs := HL.out X (List.mem_of_getElem? hX)
      obtain ⟨hok, hst, -⟩ := HRR.out k X hX
      obtain ⟨-, -, blk, off, rfl, hbl, hc⟩ := (HRR.out.below P.out.bel) k X hX
      have c0 := hc 0 (by decide)
      have c1 := hc 1 (by decide)
      have c2 := hc 2 (by decide)
      have c3 := hc 3 (by decide)
      have c4 := hc 4 (by decide)
      obtain ⟨what, id, p, cp, ts, nn, ii⟩ := X
      simp only [racs, List.getElem?_cons_succ, List.getElem?_cons_zero, Nat.add_zero] at c0 c1 c2 c3 c4
      have hts : ts.length ≤ 20 := hXs.1
      have hidb : id ≤ 18446744073709551615 := hok.1
      have HRD : Hid (∀ w', Below w.heap.size w w' → Reads w' (.slice p ts.length cp) (ts.map encStr)) := fun w' hb => (hst.below hb).reads (by omega)
      clear hX hXs hok hst hc
      go_upto_if 73 with (fail)
      clear c0 c1 c2 c3 c4
      have hbl : Below wr.heap.size wr (wr.alloc (.cells #[.int .i64 what, .int .u64 (id : Int), .slice p ts.length cp, .int .i64 nn, .int .i64 ii] 33)) := (Below.refl _ _).alloc (Nat.le_refl _) _
      have HBE : Hid (Blk (wr.alloc (.cells #[.int .i64 what, .int .u64 (id : Int), .slice p ts.length cp, .int .i64 nn, .int .i64 ii] 33)) wr.heap.size 33 #[.int .i64 what, .int .u64 (id : Int), .slice p ts.length cp, .int .i64 nn, .int .i64 ii]) := Blk.new _ _ _
      have P := Lib.hid (P.out.keep hbl (S' := fun g => bkv (.slice q nA c) g ∨ g = wr.heap.size) (fun g hg => hg.imp (fun h => h) (fun h => ⟨by omega, by simp; omega⟩)))
      have ROW := Lib.hid (ownsRow_below ROW.out hbl)
      obtain ⟨E, hE⟩ : ∃ E, wr.heap.size = E := ⟨_, rfl⟩
      rw [hE] at HBE P ⊢
      clear hE hbl
      generalize wr.alloc (.cells #[.int .i64 what, .int .u64 (id : Int), .slice p ts.length cp, .int .i64 nn, .int .i64 ii] 33) = W1 at *
      go_cut [13] (fun s13 wx => ∃ id2 : Nat, s13 = .int .u64 (id2 : Int) ∧ id2 ≤ 18446744073709551615 ∧ W1 = wx)
      case first =>
        by_cases h1 : what = 1
        · obtain ⟨z, hz1, hz2⟩ := u64_nat ((id : Int) + (lst : Int))
          go_wp2_with fail
          go_meet
          exact ⟨z, rfl, hz2, rfl⟩
        · go_wp2_with fail
          go_meet
          exact ⟨id, rfl, hidb, rfl⟩
      case rest =>
        obtain ⟨id2, rfl, hid2, rfl⟩ := hcut
        have d0 := Blk.cell HBE.out 0
        simp only [List.getElem?_toArray, List.getElem?_cons_zero] at d0
        go_upto_block 2 with (fail)
        clear d0
        go_cut [9, 10] (fun s9 s10 wx => ∃ (lst' : Nat) (q' : Option Addr) (nA' c' : Nat) (AL' : List Nat) (dx' dy' : Dx), s9 = .int .u64 (lst' : Int) ∧ s10 = .slice q' nA' c' ∧ Rr w wx x y most (k + 1) q' nA' c' AL' dx' dy')
        case first =>
          have d2 := Blk.cell HBE.out 2
          have d3 := Blk.cell HBE.out 3
          have d4 := Blk.cell HBE.out 4
          simp only [List.getElem?_toArray, List.getElem?_cons_zero, List.getElem?_cons_succ] at d2 d3 d4
          by_cases w0 : what = 0
          · subst w0
            obtain ⟨⟨d1, ns, er⟩, hadd⟩ : ∃ r, dx.add most id2 ts = r := ⟨_, rfl⟩
            obtain ⟨⟨d2, ns2, er2⟩, hadd2⟩ : ∃ r, dy.add most id2 ts = r := ⟨_, rfl⟩
            obtain ⟨he1, he2⟩ := HE.out.add most id2 ts
            have hnl : ns.length ≤ 1000 := by have := add_len most dx id2 ts; rw [hadd] at this; exact Nat.le_trans this (by omega)
            rw [hadd, hadd2] at he1 he2
            simp only [Prod.mk.injEq] at he1
            obtain ⟨rfl, rfl⟩ := he1
            have HE2 := Lib.hid he2
            have HADD2 := Lib.hid hadd2
            have HA := Lib.hid (P.out.addx (by omega) (by omega) (by omega) id2 hid2 _ ts (HRD.out _ P.out.bel) (by omega) hadd)
            clear he2 hadd hadd2 HE
            go_wp2_with (go_at_call 13; refine HA.out.mono ?_; rintro e w2 ⟨v, rfl, hv, k2, o2⟩; obtain ⟨pv, cv, rfl⟩ := owns_form hv; have HBE2 := Lib.hid (Blk.only HBE.out o2 (fun h => h.1 (.inr rfl))); have e2 := Blk.cell HBE2.out 2; simp only [List.getElem?_toArray, List.getElem?_cons_zero, List.getElem?_cons_succ] at e2; have P2 := Lib.hid k2; have HV := Lib.hid hv; have ROW2 := Lib.hid (ownsRow_only ROW.out o2 (fun g hg h => h.1 (.inl hg))); clear hv k2 o2)
            refine (P2.out.addsy (by omega) (by omega) (by omega) id2 hid2 _ ts (HRD.out _ P2.out.bel) (by omega) HADD2.out hnl _ (Reads.own_ HV.out (by rw [List.length_map]) (by rw [List.length_map]; omega)) (fun g hg => .inl (.inr hg))).mono ?_
            rintro e w3 ⟨rfl, k3, o3⟩
            have P3 := Lib.hid k3
            have ROW3 := Lib.hid (ownsRow_only ROW2.out o3 (fun g hg h => h.1 (.inl (.inl hg))))
            clear k3 o3 P2 P HBE HBE2 e2 ROW ROW2 HA HADD2 HV
            by_cases her : er = 0
            · subst her
              go_wp2_with (at_builtin; refine wpList_append_own_at _ rfl _ _ 30 rfl w.heap.size 29 iu (.int .u64 0) 1 8 Try.underlying30 hiu hu0 hu1 hu2 rfl (by decide) _ _ _ rfl (ROW3.out.alloc _) ⟨w3.heap.size, 0, none⟩ 1 1 [.int .u64 (id2 : Int)] rfl rfl ?c1 ?c2 ?c3 ?c4 ?c5 ?_)
              case c1 => exact cell_one_new _ _ _
              case c2 => exact one_int _ _
              case c3 => unfold maxLen; omega
              case c4 => omega
              case c5 => have := P3.out.bel.size; simp; omega
              intro v' w5 hown hg5 _ hvb
              have P5 := Lib.hid (P3.out.push (fun g hg => .inl (.inl hg)) (fun g hg => (ROW3.out.lt g hg).1) hg5 hown hvb)
              obtain ⟨q', c', rfl⟩ := owns_form hown
              have HOWN := Lib.hid hown
              clear hown hg5 hvb
              go_wp2_with fail
              go_meet
              refine ⟨id2, q', nA + 1, c', AL ++ [id2], d1, d2, rfl, rfl, P5.out.mono (by omega) (by omega), HE2.out, ?_, by rw [List.length_append, ← HAL.out.1]; rfl, by rw [List.length_append, ← HAL.out.1, List.length_singleton]; omega, fun u hu => ?_⟩
              · unfold idsV
                rw [List.map_append]
                exact HOWN.out
              · rcases List.mem_append.1 hu with h | h
                · exact HAL.out.2 u h
                · rw [List.mem_singleton.1 h]; exact hid2
            · go_wp2_with fail
              go_meet
              exact ⟨lst, q, nA, c, AL, d1, d2, rfl, rfl, (P3.out.less (fun g h => .inl (.inl h))).mono (by omega) (by omega), HE2.out, ROW3.out, HAL.out.1, by rw [← HAL.out.1]; omega, HAL.out.2⟩
          · by_cases w1 : what = 1
            · subst w1
              obtain ⟨⟨d1, ns, er⟩, hadd⟩ : ∃ r, dx.add most id2 ts = r := ⟨_, rfl⟩
              obtain ⟨⟨d2, ns2, er2⟩, hadd2⟩ : ∃ r, dy.add most id2 ts = r := ⟨_, rfl⟩
              obtain ⟨he1, he2⟩ := HE.out.add most id2 ts
              have hnl : ns.length ≤ 1000 := by have := add_len most dx id2 ts; rw [hadd] at this; exact Nat.le_trans this (by omega)
              rw [hadd, hadd2] at he1 he2
              simp only [Prod.mk.injEq] at he1
              obtain ⟨rfl, rfl⟩ := he1
              have HE2 := Lib.hid he2
              have HADD2 := Lib.hid hadd2
              have HA := Lib.hid (P.out.addx (by omega) (by omega) (by omega) id2 hid2 _ ts (HRD.out _ P.out.bel) (by omega) hadd)
              clear he2 hadd hadd2 HE
              go_wp2_with (go_at_call 13; refine HA.out.mono ?_; rintro e w2 ⟨v, rfl, hv, k2, o2⟩; obtain ⟨pv, cv, rfl⟩ := owns_form hv; have HBE2 := Lib.hid (Blk.only HBE.out o2 (fun h => h.1 (.inr rfl))); have e2 := Blk.cell HBE2.out 2; simp only [List.getElem?_toArray, List.getElem?_cons_zero, List.getElem?_cons_succ] at e2; have P2 := Lib.hid k2; have HV := Lib.hid hv; have ROW2 := Lib.hid (ownsRow_only ROW.out o2 (fun g hg h => h.1 (.inl hg))); clear hv k2 o2)
              refine (P2.out.addsy (by omega) (by omega) (by omega) id2 hid2 _ ts (HRD.out _ P2.out.bel) (by omega) HADD2.out hnl _ (Reads.own_ HV.out (by rw [List.length_map]) (by rw [List.length_map]; omega)) (fun g hg => .inl (.inr hg))).mono ?_
              rintro e w3 ⟨rfl, k3, o3⟩
              have P3 := Lib.hid k3
              have ROW3 := Lib.hid (ownsRow_only ROW2.out o3 (fun g hg h => h.1 (.inl (.inl hg))))
              clear k3 o3 P2 P HBE HBE2 e2 ROW ROW2 HA HADD2 HV
              by_cases her : er = 0
              · subst her
                go_wp2_with (at_builtin; refine wpList_append_own_at _ rfl _ _ 30 rfl w.heap.size 29 iu (.int .u64 0) 1 8 Try.underlying30 hiu hu0 hu1 hu2 rfl (by decide) _ _ _ rfl (ROW3.out.alloc _) ⟨w3.heap.size, 0, none⟩ 1 1 [.int .u64 (id2 : Int)] rfl rfl ?c1 ?c2 ?c3 ?c4 ?c5 ?_)
                case c1 => exact cell_one_new _ _ _
                case c2 => exact one_int _ _
                case c3 => unfold maxLen; omega
                case c4 => omega
                case c5 => have := P3.out.bel.size; simp; omega
                intro v' w5 hown hg5 _ hvb
                have P5 := Lib.hid (P3.out.push (fun g hg => .inl (.inl hg)) (fun g hg => (ROW3.out.lt g hg).1) hg5 hown hvb)
                obtain ⟨q', c', rfl⟩ := owns_form hown
                have HOWN := Lib.hid hown
                clear hown hg5 hvb
                go_wp2_with fail
                go_meet
                refine ⟨id2, q', nA + 1, c', AL ++ [id2], d1, d2, rfl, rfl, P5.out.mono (by omega) (by omega), HE2.out, ?_, by rw [List.length_append, ← HAL.out.1]; rfl, by rw [List.length_append, ← HAL.out.1, List.length_singleton]; omega, fun u hu => ?_⟩
                · unfold idsV
                  rw [List.map_append]
                  exact HOWN.out
                · rcases List.mem_append.1 hu with h | h
                  · exact HAL.out.2 u h
                  · rw [List.mem_singleton.1 h]; exact hid2
              · go_wp2_with fail
                go_meet
                exact ⟨lst, q, nA, c, AL, d1, d2, rfl, rfl, (P3.out.less (fun g h => .inl (.inl h))).mono (by omega) (by omega), HE2.out, ROW3.out, HAL.out.1, by rw [← HAL.out.1]; omega, HAL.out.2⟩
            · by_cases w2 : what = 2
              · subst w2
                obtain ⟨⟨d1, ns, er⟩, hadd⟩ : ∃ r, dx.drop id2 = r := ⟨_, rfl⟩
                obtain ⟨⟨d2, ns2, er2⟩, hadd2⟩ : ∃ r, dy.drop id2 = r := ⟨_, rfl⟩
                obtain ⟨he1, he2⟩ := HE.out.drop id2
                have hnl : ns.length ≤ 1000 := by have := P.out.krx.facts.1.drop_len id2; rw [hadd] at this; exact Nat.le_trans this (by decide)
                rw [hadd, hadd2] at he1 he2
                simp only [Prod.mk.injEq] at he1
                obtain ⟨rfl, rfl⟩ := he1
                have HE2 := Lib.hid he2
                have HADD2 := Lib.hid hadd2
                have HA := Lib.hid (P.out.dropx (by omega) (by omega) id2 hid2 hadd)
                clear he2 hadd hadd2 HE
                go_wp2_with (go_at_call 15; refine HA.out.mono ?_; rintro e w2 ⟨v, rfl, hv, k2, o2⟩; obtain ⟨pv, cv, rfl⟩ := owns_form hv; have P2 := Lib.hid k2; have HV := Lib.hid hv; have ROW2 := Lib.hid (ownsRow_only ROW.out o2 (fun g hg h => h.1 (.inl hg))); clear hv k2 o2)
                refine (P2.out.dropsy (by omega) (by omega) id2 hid2 HADD2.out hnl _ (Reads.own_ HV.out (by rw [List.length_map]) (by rw [List.length_map]; omega)) (fun g hg => .inl (.inr hg))).mono ?_
                rintro e w3 ⟨rfl, k3, o3⟩
                have P3 := Lib.hid k3
                have ROW3 := Lib.hid (ownsRow_only ROW2.out o3 (fun g hg h => h.1 (.inl (.inl hg))))
                clear k3 o3 P2 P HBE ROW ROW2 HA HADD2 HV
                go_wp2_with fail
                go_meet
                exact ⟨lst, q, nA, c, AL, d1, d2, rfl, rfl, (P3.out.less (fun g h => .inl (.inl h))).mono (by omega) (by omega), HE2.out, ROW3.out, HAL.out.1, by rw [← HAL.out.1]; omega, HAL.out.2⟩
              · by_cases w3 : what = 3
                · subst w3
                  have HA := Lib.hid (P.out.cutx (by omega) nn ii)
                  go_wp2_with (go_at_call 17; refine HA.out.mono ?_; rintro e w2 ⟨v, rfl, k2, o2⟩; have P2 := Lib.hid k2; have ROW2 := Lib.hid (ownsRow_only ROW.out o2 (fun g hg h => h.1 (.inl hg))); clear k2 o2)
                  go_meet
                  exact ⟨lst, q, nA, c, AL, _, dy, rfl, rfl, (P2.out.less (fun g h => .inl h)).mono (by omega) (by omega), HE.out.cut nn ii, ROW2.out, HAL.out.1, by rw [← HAL.out.1]; omega, HAL.out.2⟩
                · go_wp2_with fail
                  go_meet
                  exact ⟨lst, q, nA, c, AL, dx, dy, rfl, rfl, (P.out.less (fun g h => .inl h)).mono (by omega) (by omega), HE.out, ROW.out, HAL.out.1, by rw [← HAL.out.1]; omega, HAL.out.2⟩
        case rest =>
          clear P HE ROW HAL hnk HBE HRD hts
          obtain ⟨lst', q', nA, c, AL, dx, dy, rfl, rfl, hkk, hee, hrow, hal1, hal2, hal3⟩ := hcut
          have P := Lib.hid hkk
          have HE := Lib.hid hee
          have ROW := Lib.hid hrow
          have HAL := Lib.hid (And.intro hal1 hal3)
          have hnk : nA ≤ k + 1 := by omega
          obtain ⟨GI, hGI⟩ : ∃ GI, gk = GI := ⟨_, rfl⟩
          have HGI := Lib.hid hGI
          have HK := Lib.hid (show GI + k = N by rw [← hGI]; exact HK.out)
          clear hkk hee hrow hal1 hal2 hal3 hGI
          go_wp2_with fail
          go_loopg [18] nA (fun r s18 wr => ∃ j : Nat, r + j = nA ∧ s18 = .int .i64 (j : Int) ∧ K2 w wr (bkv (.slice q' nA c)) x 1 dx y 2 dy most (32 * (k + 1) : Nat) (32 * (k + 1)) ∧ wr.ownsRow w.heap.size 29 1 (.slice q' nA c) nA (idsV AL))
          case atStart => exact ⟨0, by omega, rfl, P.out, ROW.out⟩
          case round =>
            clear P ROW
            obtain ⟨j, hj, rfl, hkk, hrow⟩ := hrel
            have HJ := Lib.hid hj
            have P := Lib.hid hkk
            have ROW := Lib.hid hrow
            have hjn : j ≤ nA := by omega
            clear hj hkk
            by_cases hjl : j < nA
            · have hjl2 : j < AL.length := by rw [← HAL.out.1]; exact hjl
              obtain ⟨u, hu⟩ : ∃ u, AL[j] = u := ⟨_, rfl⟩
              have hub : u ≤ 18446744073709551615 := HAL.out.2 u (by rw [← hu]; exact List.getElem_mem hjl2)
              obtain ⟨gA, cc, hvf, _, hgA⟩ := hrow.form (by omega)
              injection hvf with e1 e2 e3
              subst e1 e3
              have HCELL : Hid (∀ w' : World, w'.ownsRow w.heap.size 29 1 (.slice (some ⟨gA, 0, none⟩) nA c) nA (idsV AL) → w'.cell? ⟨gA, j, none⟩ = some (.int .u64 (u : Int))) := fun w' h => by
                have hc := h.cellAt j (by omega)
                rw [List.getElem?_map, List.getElem?_eq_getElem hjl2, hu] at hc
                exact hc
              have hc := HCELL.out _ ROW.out
              obtain ⟨tb, lb, sb, own, Rd, lm, sm, l0, hry⟩ := P.out.krx.ry
              have hT := rvtags_any hry u hub
              have hN2 : ∀ w', Below wr.heap.size wr w' → Calls Try.prog 19 #[.pointer (some ⟨x, 0, none⟩), .int .u64 (u : Int)] w' (RowP w' 3 (numsV (numsE dx.all u)) (errE dx.all u)) := fun w' hb => rvnums_any (hry.below hb) u hub
              obtain ⟨lt, ln⟩ := P.out.krx.facts.1.lens u
              obtain ⟨er, her⟩ : ∃ er, errE dx.all u = er := ⟨_, rfl⟩
              rw [her] at hT hN2
              have hlvr : (liveE dx.all u = true ∧ er = 0) ∨ (liveE dx.all u = false ∧ er = 9) := by
                rw [← her]
                unfold errE
                cases liveE dx.all u
                · exact .inr ⟨rfl, rfl⟩
                · exact .inl ⟨rfl, rfl⟩
              have HER := Lib.hid her
              clear hry hu e2 hrow her
              rcases hlvr with ⟨hlv, rfl⟩ | ⟨hlv, rfl⟩
              · have HT := Lib.hid hT
                have HN2 := Lib.hid hN2
                have HLV := Lib.hid hlv
                clear hT hN2 hlv
                go_wp2_with (first
                  | (go_at_call 18; refine HT.out.mono ?_; rintro e w1 ⟨v1, rfl, hv1, b1⟩; rw [List.length_map] at hv1; obtain ⟨p1, c1, rfl⟩ := owns_form hv1; have hc1 := HCELL.out _ (ownsRow_below ROW.out b1))
                  | (go_at_call 19; refine (HN2.out _ b1).mono ?_; rintro e w2 ⟨v2, rfl, hv2, b2⟩; rw [List.length_map] at hv2; obtain ⟨p2, c2, rfl⟩ := owns_form hv2; have hc2 := HCELL.out _ (ownsRow_below (ownsRow_below ROW.out b1) b2)))
                have b12 := b1.trans (b2.mono b1.size)
                refine ((P.out.quiet b12).hasy u hub _ _ (by rw [← HE.out.2]; exact Reads.own_ (ownsRow_below hv1 b2) (by rw [List.length_map]) (by rw [List.length_map]; omega)) (by rw [← HE.out.2]; exact Reads.own_ hv2 (by rw [List.length_map]) (by rw [List.length_map]; omega)) (by rw [← HE.out.2]; exact HER.out.symm)).mono ?_
                rintro e w3 ⟨rfl, k3, o3⟩
                have ROW3 := Lib.hid (ownsRow_only (ownsRow_below ROW.out b12) o3 (fun g hg h => h.1 hg))
                have hc3 := HCELL.out _ ROW3.out
                have P3 := Lib.hid k3
                obtain ⟨tb, lb, sb, own, Rd, lm, sm, l0, hry⟩ := k3.krx.ry
                have HLIVE := Lib.hid (rvlive_any hry u hub)
                rw [HLV.out] at HLIVE
                clear hry k3 o3 hc hc1 hc2 b1 b2 b12 hv1 hv2 HT HN2 P ROW
                go_wp2_with (go_at_call 21; refine HLIVE.out.mono ?_; rintro e w4 ⟨rfl, b4⟩)
                go_roundg (nA - (j + 1))
                case measure => have := HJ.out; omega
                case rel => exact ⟨j + 1, by omega, by go_num, P3.out.quiet b4, ownsRow_below ROW3.out b4⟩
              · have HT := Lib.hid hT
                have HN2 := Lib.hid hN2
                have HLV := Lib.hid hlv
                clear hT hN2 hlv
                go_wp2_with (first
                  | (go_at_call 18; refine HT.out.mono ?_; rintro e w1 ⟨v1, rfl, hv1, b1⟩; rw [List.length_map] at hv1; obtain ⟨p1, c1, rfl⟩ := owns_form hv1; have hc1 := HCELL.out _ (ownsRow_below ROW.out b1))
                  | (go_at_call 19; refine (HN2.out _ b1).mono ?_; rintro e w2 ⟨v2, rfl, hv2, b2⟩; rw [List.length_map] at hv2; obtain ⟨p2, c2, rfl⟩ := owns_form hv2; have hc2 := HCELL.out _ (ownsRow_below (ownsRow_below ROW.out b1) b2)))
                have b12 := b1.trans (b2.mono b1.size)
                refine ((P.out.quiet b12).hasy u hub _ _ (by rw [← HE.out.2]; exact Reads.own_ (ownsRow_below hv1 b2) (by rw [List.length_map]) (by rw [List.length_map]; omega)) (by rw [← HE.out.2]; exact Reads.own_ hv2 (by rw [List.length_map]) (by rw [List.length_map]; omega)) (by rw [← HE.out.2]; exact HER.out.symm)).mono ?_
                rintro e w3 ⟨rfl, k3, o3⟩
                have ROW3 := Lib.hid (ownsRow_only (ownsRow_below ROW.out b12) o3 (fun g hg h => h.1 hg))
                have hc3 := HCELL.out _ ROW3.out
                have P3 := Lib.hid k3
                obtain ⟨tb, lb, sb, own, Rd, lm, sm, l0, hry⟩ := k3.krx.ry
                have HLIVE := Lib.hid (rvlive_any hry u hub)
                rw [HLV.out] at HLIVE
                clear hry k3 o3 hc hc1 hc2 b1 b2 b12 hv1 hv2 HT HN2 P ROW
                go_wp2_with (go_at_call 21; refine HLIVE.out.mono ?_; rintro e w4 ⟨rfl, b4⟩)
                go_roundg (nA - (j + 1))
                case measure => have := HJ.out; omega
                case rel => exact ⟨j + 1, by omega, by go_num, P3.out.quiet b4, ownsRow_below ROW3.out b4⟩
            · obtain rfl : j = nA := by omega
              have hlen : ∀ z : Dx, (namesL z.nm).length ≤ 100000 → ((namesL z.nm).map encStr).length ≤ 140737488355328 := fun z h => by rw [List.length_map]; omega
              have hnm : (namesL dx.nm).length ≤ 100000 := by rw [namesL_len]; exact P.out.krx.facts.1.liveN hm2
              have HNM := Lib.hid (And.intro hnm hlen)
              clear hrow hnm hlen
              go_wp2_with fail
              refine (P.out.krx.knowns).mono ?_
              rintro e w1 ⟨v1, rfl, hv1, b1, _⟩
              obtain ⟨p1, c1, rfl⟩ := owns_form hv1
              have HV1 := Lib.hid hv1
              have B1 := Lib.hid b1
              clear hv1 b1
              go_wp2_with fail
              refine ((P.out.quiet B1.out).kry.knowns).mono ?_
              rintro e w2 ⟨v2, rfl, hv2, b2, _⟩
              obtain ⟨p2, c2, rfl⟩ := owns_form hv2
              have HV2 := Lib.hid hv2
              have B2 := Lib.hid (B1.out.trans (b2.mono B1.out.size))
              have R1 := Lib.hid (Reads.own_ (ownsRow_below HV1.out b2) (by rw [List.length_map]) (HNM.out.2 dx HNM.out.1))
              clear hv2 b2 HV1 B1
              go_wp2_with fail
              refine (strings_any _ _ (namesL dx.nm) w2 R1.out (by rw [HE.out.1]; exact Reads.own_ HV2.out (by rw [List.length_map]) (HNM.out.2 dy (by rw [← HE.out.1]; exact HNM.out.1)))).mono ?_
              rintro e w3 ⟨rfl, b3⟩
              have P3 := Lib.hid (P.out.quiet (B2.out.trans (b3.mono B2.out.size)))
              have ROW3 := Lib.hid (ownsRow_below ROW.out (B2.out.trans (b3.mono B2.out.size)))
              clear b3 B2 HV2 P ROW
              go_wp2_with fail
              refine (P3.out.holdsx (by omega)).mono ?_
              rintro e w4 ⟨rfl, k4, o4⟩
              have P4 := Lib.hid k4
              have ROW4 := Lib.hid (ownsRow_only ROW3.out o4 (fun g hg h => h.1 hg))
              clear k4 o4 P3 ROW3
              go_wp2_with fail
              refine (P4.out.holdsy (by omega)).mono ?_
              rintro e w5 ⟨rfl, k5, o5⟩
              have P5 := Lib.hid k5
              have ROW5 := Lib.hid (ownsRow_only ROW4.out o5 (fun g hg h => h.1 hg))
              clear k5 o5 P4 ROW4
              go_wp2_with fail
              go_roundg (GI - 1)
              case measure => exact meas_lt HK.out HGI.out hlt
              case rel => exact ⟨k + 1, lst', q', _, c, AL, dx, dy, meas_eq HK.out hlt, by go_num, rfl, rfl, P5.out, HE.out, ROW5.out, HAL.out.1, HAL.out.1 ▸ hnk, HAL.out.2⟩
    · obtain rfl : k = N := by omega
      go_wp2_with fail
      refine (rknown_any _).mono ?_
      rintro e w9 ⟨rfl, b9⟩
      go_wp2_with fail
      go_ret
      exact ⟨rfl, P.out.bel.trans (b9.mono P.out.bel.size)⟩
theorem rholds_walk (most : Int) (q : Option Addr) (cap : Nat) (L : List Ra) (w : World) (hR : RActs w q L) :
    Calls Try.prog 3 #[.int .i64 most, .slice q L.length cap] w fun e w' => e = .returned (.bool true) ∧ Below w.heap.size w w' := by
  by_cases hm : 1 ≤ most ∧ most ≤ 65536
  · cases hf : fewB L
    · exact rholds_few most hm.1 hm.2 q cap L w hR hf
    · exact rholds_some most hm.1 hm.2 q cap L w hR hf
  · exact rholds_most most hm q L.length cap w
end Go.Proofs.Ytfpkeinknhijaaa
