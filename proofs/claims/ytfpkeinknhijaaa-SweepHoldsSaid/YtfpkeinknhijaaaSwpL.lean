/- SweepHolds, for all arguments. -/
import Derived.Test.YtfpkeinknhijaaaSwpO
import Derived.Test.YtfpkeinknhijaaaSwpI
import Derived.Test.YtfpkeinknhijaaaSwpR
import Derived.Test.YtfpkeinknhijaaaRevS
namespace Go.Proofs.Ytfpkeinknhijaaa
set_option linter.unusedVariables false
open Go.RowKit Go.Maps Go.Sort

set_option maxHeartbeats 4000000 in
set_option maxRecDepth 100000 in
theorem sholds_few (q : Option Addr) (cap : Nat) (L : List Sa) (w : World) (hR : SActs w q L) (hf : sewB L = false) :
    Calls Try.prog 9 #[.slice q L.length cap] w fun e w' => e = .returned (.bool true) ∧ Below w.heap.size w w' := by
  have HF := sew_any q cap L w hR
  unfold SewP at HF
  rw [hf] at HF
  have HF := Lib.hid HF
  clear hR hf
  generalize L.length = N at *
  go_enter Try.func9, Try.ntmps9
  go_wp2_with (go_at_call 35; refine HF.out.mono ?_; rintro e w1 ⟨rfl, rfl⟩)
  refine (sknown_any _).mono ?_
  rintro e w2 ⟨rfl, b2⟩
  go_wp2_with fail
  go_ret
  exact ⟨rfl, b2⟩
/-- Between two rounds. -/
def Shr (W wr : World) (x y s k : Nat) (dx dy : Dx) (n i rd : Nat) : Prop :=
  K2 W wr (fun g => g = s) x 3 dx y 4 dy 1000 (32 * k : Nat) (116 * k) ∧ Eql dx dy ∧ Swp wr s n i rd ∧ n < 65536 ∧ i ≤ 116 * k ∧ rd ≤ k
theorem Eql.refl0 : Eql ⟨[], [], []⟩ ⟨[], [], []⟩ := Eql.refl _
set_option maxHeartbeats 16000000 in
set_option maxRecDepth 100000 in
theorem sholds_some (q0 : Option Addr) (cap : Nat) (L : List Sa) (w : World) (hR : SActs w q0 L) (hf : sewB L = true) :
    Calls Try.prog 9 #[.slice q0 L.length cap] w fun e w' => e = .returned (.bool true) ∧ Below w.heap.size w w' := by
  have hF := sew_any q0 cap L w hR
  unfold SewP at hF
  rw [hf] at hF
  obtain ⟨h50, hL⟩ := sewB_yes hf
  have HRR := Lib.hid hR
  have HL := Lib.hid hL
  obtain ⟨N, hN⟩ : ∃ N, L.length = N := ⟨_, rfl⟩
  have HN := Lib.hid hN
  rw [hN] at hF h50 ⊢
  have HF := Lib.hid hF
  clear hR hf hL hN hF
  go_enter Try.func9, Try.ntmps9
  go_wp2_with (go_at_call 35; refine HF.out.mono ?_; rintro e w1 ⟨rfl, rfl⟩; clear HF)
  refine (Kr.start w w (Below.refl _ _) 1000 3 (by decide) (by decide) (by decide) (by decide)).mono ?_
  rintro e w1 ⟨x, rfl, k1, _⟩
  have K1 := Lib.hid k1
  clear k1
  go_wp2_with fail
  refine (K1.out.start2 4 (by decide) (by decide) (by decide) (by decide)).mono ?_
  rintro e w2 ⟨y, rfl, k2⟩
  have KK := Lib.hid k2
  clear k2 K1
  go_wp2_with (go_at_call 34; refine (swnew_any _).mono ?_; rintro e w3 ⟨rfl, rfl⟩)
  have SW : Hid (Swp (w2.alloc (.cells (swCs 0 0 0) 102)) w2.heap.size 0 0 0) := Blk.new _ _ _
  have P := Lib.hid (KK.out.keep (w' := w2.alloc (.cells (swCs 0 0 0) 102)) ((Below.refl _ _).alloc (Nat.le_refl _) _) (S' := fun g => g = w2.heap.size) (fun g hg => .inr ⟨by rw [hg]; exact Nat.le_refl _, by rw [hg]; simp⟩))
  have HV : Hid (w.heap.size ≤ w2.heap.size) := KK.out.bel.size
  obtain ⟨s, hs⟩ : ∃ s, w2.heap.size = s := ⟨_, rfl⟩
  rw [hs] at SW P HV
  try simp only [hs]
  clear hs KK
  generalize w2.alloc (.cells (swCs 0 0 0) 102) = W2 at *
  go_wp2_with fail
  go_loopg [8, 9] N (fun r s8 s9 wr => ∃ (k lst : Nat) (dx dy : Dx) (n i rd : Nat), r + k = N ∧ s9 = .int .i64 (k : Int) ∧ s8 = .int .u64 (lst : Int) ∧ Shr w wr x y s k dx dy n i rd)
  case atStart => exact ⟨0, 0, _, _, 0, 0, 0, by omega, rfl, rfl, P.out, Eql.refl0, SW.out, by decide, Nat.zero_le _, Nat.zero_le _⟩
  case round =>
    clear P SW
    obtain ⟨k, lst, dx, dy, n, i, rd, hk, rfl, rfl, hkk, hee, hsw, hn, hi, hrd⟩ := hrel
    have HK := Lib.hid hk
    have P := Lib.hid hkk
    have HE := Lib.hid hee
    have SW := Lib.hid hsw
    have hkN : k ≤ N := by omega
    clear hk hkk hee hsw
    by_cases hlt : k < N
    · obtain ⟨X, hX⟩ : ∃ X, L[k]? = some X := ⟨_, List.getElem?_eq_getElem (by rw [HN.out]; exact hlt)⟩
      have hXs := HL.out X (List.mem_of_getElem? hX)
      obtain ⟨-, hst, -⟩ := HRR.out k X hX
      obtain ⟨hok, -, blk, off, rfl, hbl, hc⟩ := (HRR.out.below P.out.bel) k X hX
      have c0 := hc 0 (by decide)
      have c1 := hc 1 (by decide)
      have c2 := hc 2 (by decide)
      have c3 := hc 3 (by decide)
      obtain ⟨what, id, p, cp, ts, nn⟩ := X
      simp only [sacs, List.getElem?_cons_succ, List.getElem?_cons_zero, Nat.add_zero] at c0 c1 c2 c3
      have hts : ts.length ≤ 20 := hXs.1
      have hnn : nn ≤ 100 := hXs.2.1
      have hidb : id ≤ 18446744073709551615 := hok.1
      have HRD : Hid (∀ w', Below w.heap.size w w' → Reads w' (.slice p ts.length cp) (ts.map encStr)) := fun w' hb => (hst.below hb).reads (by omega)
      clear hX hXs hok hst hc
      have hbl2 : Below wr.heap.size wr (wr.alloc (.cells #[.int .i64 what, .int .u64 (id : Int), .slice p ts.length cp, .int .i64 nn] 78)) := (Below.refl _ _).alloc (Nat.le_refl _) _
      have HBE : Hid (Blk (wr.alloc (.cells #[.int .i64 what, .int .u64 (id : Int), .slice p ts.length cp, .int .i64 nn] 78)) wr.heap.size 78 #[.int .i64 what, .int .u64 (id : Int), .slice p ts.length cp, .int .i64 nn]) := Blk.new _ _ _
      have P := Lib.hid (P.out.keep hbl2 (S' := fun g => g = s ∨ g = wr.heap.size) (fun g hg => hg.imp (fun h => h) (fun h => ⟨by omega, by simp; omega⟩)))
      have HSE : Hid (s < wr.heap.size) := SW.out.lt
      have SW := Lib.hid (SW.out.below hbl2 SW.out.lt)
      clear hbl2
      have d0 := Blk.cell HBE.out 0
      have d1 := Blk.cell HBE.out 1
      have d2 := Blk.cell HBE.out 2
      have d3 := Blk.cell HBE.out 3
      simp only [List.getElem?_toArray, List.getElem?_cons_zero, List.getElem?_cons_succ] at d0 d1 d2 d3
      by_cases w0 : what = 0
      · subst w0
        obtain ⟨z, hz1, hz2⟩ := u64_nat ((lst : Int) + (id : Int))
        obtain ⟨⟨dx1, ns, er⟩, hadd⟩ : ∃ r, dx.add 1000 z ts = r := ⟨_, rfl⟩
        obtain ⟨⟨dy1, ns2, er2⟩, hadd2⟩ : ∃ r, dy.add 1000 z ts = r := ⟨_, rfl⟩
        obtain ⟨he1, he2⟩ := HE.out.add P.out.krx.facts.1 P.out.kry.facts.1 z ts
        have hnl : ns.length ≤ 1000 := by have := add_len 1000 dx z ts; rw [hadd] at this; exact Nat.le_trans this (by omega)
        rw [hadd, hadd2] at he1 he2
        simp only [Prod.mk.injEq] at he1
        obtain ⟨rfl, rfl⟩ := he1
        have HE2 := Lib.hid he2
        have HADD2 := Lib.hid hadd2
        have HA := Lib.hid (P.out.addx (by omega) (by omega) (by omega) z hz2 _ ts (HRD.out _ P.out.bel) (by omega) hadd)
        clear he2 hadd hadd2 HE
        go_wp2_with fail
        refine HA.out.mono ?_
        rintro e w2 ⟨v, rfl, hv, k2, o2⟩
        obtain ⟨pv, cv, rfl⟩ := owns_form hv
        have HBE2 := Lib.hid (Blk.only HBE.out o2 (fun h => h.1 (.inr rfl)))
        have e1 := Blk.cell HBE2.out 1
        have e2 := Blk.cell HBE2.out 2
        simp only [List.getElem?_toArray, List.getElem?_cons_zero, List.getElem?_cons_succ] at e1 e2
        have P2 := Lib.hid k2
        have HV := Lib.hid hv
        have SW2 := Lib.hid (SW.out.only o2 (fun h => h.1 (.inl rfl)))
        clear hv k2 o2
        go_wp2_with fail
        refine (P2.out.addy (by omega) (by omega) (by omega) z hz2 _ ts (HRD.out _ P2.out.bel) (by omega) HADD2.out).mono ?_
        rintro e w3 ⟨v3, rfl, hv3, k3, o3⟩
        obtain ⟨pv3, cv3, rfl⟩ := owns_form hv3
        have P3 := Lib.hid k3
        have HV2 := Lib.hid (ownsRow_only HV.out o3 (fun g hg h => h.1 (.inr hg)))
        have HV3 := Lib.hid hv3
        have HBE3 := Lib.hid (Blk.only HBE2.out o3 (fun h => h.1 (.inl (.inr rfl))))
        have SW3 := Lib.hid (SW2.out.only o3 (fun h => h.1 (.inl (.inl rfl))))
        clear hv3 k3 o3 P2 P HBE HBE2 e1 e2 d0 d1 d2 d3 HA HADD2 HV SW SW2
        go_wp2_with fail
        refine (ints_any _ _ ns w3 (Reads.own_ HV2.out (by rw [List.length_map]) (by rw [List.length_map]; omega)) (Reads.own_ HV3.out (by rw [List.length_map]) (by rw [List.length_map]; omega))).mono ?_
        rintro e w4 ⟨rfl, b4⟩
        have P4 := Lib.hid (P3.out.quiet b4)
        have SW4 := Lib.hid (SW3.out.below b4 SW3.out.lt)
        have HBE4 := Lib.hid (HBE3.out.below b4 HBE3.out.lt)
        have d1 := Blk.cell HBE4.out 1
        simp only [List.getElem?_toArray, List.getElem?_cons_zero, List.getElem?_cons_succ] at d1
        clear b4 P3 SW3 HBE3 HV2 HV3
        by_cases her : er = 0
        · subst her
          go_wp2_with fail
          go_roundg (gk - 1)
          case measure => exact meas_lt HK.out rfl hlt
          case rel => exact ⟨k + 1, z, dx1, dy1, n, i, rd, meas_eq HK.out hlt, by go_num, rfl, (P4.out.less (fun g h => .inl (.inl (.inl h)))).mono (by omega) (by omega), HE2.out, SW4.out, hn, by omega, by omega⟩
        · go_wp2_with fail
          go_roundg (gk - 1)
          case measure => exact meas_lt HK.out rfl hlt
          case rel => exact ⟨k + 1, lst, dx1, dy1, n, i, rd, meas_eq HK.out hlt, by go_num, rfl, (P4.out.less (fun g h => .inl (.inl (.inl h)))).mono (by omega) (by omega), HE2.out, SW4.out, hn, by omega, by omega⟩
      · by_cases w1 : what = 1
        · subst w1
          obtain ⟨⟨dx1, ns, er⟩, hadd⟩ : ∃ r, dx.drop id = r := ⟨_, rfl⟩
          obtain ⟨⟨dy1, ns2, er2⟩, hadd2⟩ : ∃ r, dy.drop id = r := ⟨_, rfl⟩
          obtain ⟨he1, he2⟩ := HE.out.drop id
          have hnl : ns.length ≤ 1000 := by have := P.out.krx.facts.1.drop_len id; rw [hadd] at this; exact Nat.le_trans this (by decide)
          rw [hadd, hadd2] at he1 he2
          simp only [Prod.mk.injEq] at he1
          obtain ⟨rfl, rfl⟩ := he1
          have HE2 := Lib.hid he2
          have HADD2 := Lib.hid hadd2
          have HA := Lib.hid (P.out.dropx (by omega) (by omega) id hidb hadd)
          clear he2 hadd hadd2 HE
          go_wp2_with fail
          refine HA.out.mono ?_
          rintro e w2 ⟨v, rfl, hv, k2, o2⟩
          obtain ⟨pv, cv, rfl⟩ := owns_form hv
          have HBE2 := Lib.hid (Blk.only HBE.out o2 (fun h => h.1 (.inr rfl)))
          have e1 := Blk.cell HBE2.out 1
          have e2 := Blk.cell HBE2.out 2
          simp only [List.getElem?_toArray, List.getElem?_cons_zero, List.getElem?_cons_succ] at e1 e2
          have P2 := Lib.hid k2
          have HV := Lib.hid hv
          have SW2 := Lib.hid (SW.out.only o2 (fun h => h.1 (.inl rfl)))
          clear hv k2 o2
          go_wp2_with fail
          refine (P2.out.dropy (by omega) (by omega) id hidb HADD2.out).mono ?_
          rintro e w3 ⟨v3, rfl, hv3, k3, o3⟩
          obtain ⟨pv3, cv3, rfl⟩ := owns_form hv3
          have P3 := Lib.hid k3
          have HV2 := Lib.hid (ownsRow_only HV.out o3 (fun g hg h => h.1 (.inr hg)))
          have HV3 := Lib.hid hv3
          have SW3 := Lib.hid (SW2.out.only o3 (fun h => h.1 (.inl (.inl rfl))))
          clear hv3 k3 o3 P2 P HBE HBE2 e1 e2 d0 d1 d2 d3 HA HADD2 HV SW SW2
          go_wp2_with fail
          refine (ints_any _ _ ns w3 (Reads.own_ HV2.out (by rw [List.length_map]) (by rw [List.length_map]; omega)) (Reads.own_ HV3.out (by rw [List.length_map]) (by rw [List.length_map]; omega))).mono ?_
          rintro e w4 ⟨rfl, b4⟩
          have P4 := Lib.hid (P3.out.quiet b4)
          have SW4 := Lib.hid (SW3.out.below b4 SW3.out.lt)
          clear b4 P3 SW3 HV2 HV3
          go_wp2_with fail
          go_roundg (gk - 1)
          case measure => exact meas_lt HK.out rfl hlt
          case rel => exact ⟨k + 1, lst, dx1, dy1, n, i, rd, meas_eq HK.out hlt, by go_num, rfl, (P4.out.less (fun g h => .inl (.inl (.inl h)))).mono (by omega) (by omega), HE2.out, SW4.out, hn, by omega, by omega⟩
        · by_cases w2 : what = 2
          · subst w2
            obtain ⟨m, hm1, hm2⟩ : ∃ m : Nat, (if nn > 0 then nn else 0) = (m : Int) ∧ m ≤ 100 := by
              refine ⟨(if nn > 0 then nn else 0).toNat, ?_, ?_⟩ <;> (split <;> omega)
            have hmax : ∀ (ts : Array TypeId) (t : TypeId) (W : World), Sem.run Try.prog (Builtin.max_ ts t #[.int .i64 0, .int .i64 nn]) W = .ok (.int .i64 (m : Int)) W := fun ts t W => by
              rw [← hm1]
              simp [Builtin.max_, Builtin.max2]
            obtain ⟨r, hr⟩ : ∃ r, swGo m dx n i 0 0 = r := ⟨_, rfl⟩
            have hlt1 : ∀ s ∈ dx.sl, s.1 < 65536 := fun s hs => by have := P.out.krx.facts.1.nlt s hs; omega
            have hg := go_is0 m dx n i 0 0 hn hlt1
            rw [hr] at hg
            have hsl := P.out.krx.facts.2.1
            have q1 : r.lk ≤ m := by have := hg.lks.2; omega
            have q2 : dx.sl.length = r.d.sl.length + r.gn := by have := hg.size; omega
            have q3 : wrongX dx.all dx.sl = wrongX r.d.all r.d.sl + r.gn := by have := hg.wrong; rw [hg.all]; omega
            have q4 : r.i ≤ 116 * (k + 1) := by have := hg.ib; omega
            have HN6 := Lib.hid hg.n64
            have HE2 := Lib.hid (HE.out.go hg.nm hg.all hg.keep)
            have HRR2 := Lib.hid hr
            have hrdk : (if r.fin = true then rd + 1 else rd) ≤ k + 1 := by split <;> omega
            have Q2 := Lib.hid q2
            have Q3 := Lib.hid q3
            have Q8 : Hid (wrongX dx.all dx.sl ≤ dx.sl.length) := wrong_le _ _
            clear hg hlt1 hm1 hr HE q2 q3
            go_wp2_with fail
            refine (P.out.sizesx).mono ?_
            rintro e w2 ⟨rfl, b2⟩
            have P2 := Lib.hid (P.out.quiet b2)
            have SW2 := Lib.hid (SW.out.below b2 SW.out.lt)
            have HBE2 := Lib.hid (HBE.out.below b2 HBE.out.lt)
            have e3 := Blk.cell HBE2.out 3
            simp only [List.getElem?_toArray, List.getElem?_cons_zero, List.getElem?_cons_succ] at e3
            clear b2 P SW HBE d0 d1 d2 d3
            go_wp2_with fail
            refine (P2.out.step SW2.out (.inl rfl) HV.out m (by omega) hn (by omega) (by omega) HRR2.out).mono ?_
            rintro e w3 ⟨rfl, k3, s3, o3⟩
            have P3 := Lib.hid k3
            have SW3 := Lib.hid s3
            have HBE3 := Lib.hid (Blk.only HBE2.out o3 (fun h => h.elim (fun h => by have := HSE.out; omega) (fun h => h.1 (.inr rfl))))
            clear k3 s3 o3 P2 SW2 HBE2 e3
            go_wp2_with fail
            refine (P3.out.sizesx).mono ?_
            rintro e w4 ⟨rfl, b4⟩
            have P4 := Lib.hid (P3.out.quiet b4)
            have SW4 := Lib.hid (SW3.out.below b4 SW3.out.lt)
            have HBE4 := Lib.hid (HBE3.out.below b4 HBE3.out.lt)
            have e3 := Blk.cell HBE4.out 3
            simp only [List.getElem?_toArray, List.getElem?_cons_zero, List.getElem?_cons_succ] at e3
            clear b4 P3 SW3 HBE3
            generalize dx.sl.length = A1 at *
            generalize wrongX dx.all dx.sl = A2 at *
            generalize r.d.sl.length = A3 at *
            generalize wrongX r.d.all r.d.sl = A4 at *
            have q2 := Q2.out
            have q3 := Q3.out
            have q8 := Q8.out
            have q5 : (A3 : Int) = (A1 : Int) - (r.gn : Int) := by omega
            have q6 : (A4 : Int) = (A2 : Int) - (r.gn : Int) := by omega
            have q7 : ¬ (m : Int) < (r.lk : Int) := by omega
            have q9 : r.gn ≤ A1 := by omega
            have q10 : r.gn ≤ A2 := by omega
            have q11 : A1 ≤ 10000 := by omega
            have q12 : A2 ≤ 10000 := by omega
            clear Q2 Q3 Q8
            have HQ4 := Lib.hid q4
            have HRD2 := Lib.hid hrdk
            clear q1 q2 q3 q4 q8 hsl hrdk hn hi hrd
            go_wp2_with fail
            go_roundg (gk - 1)
            case measure => exact meas_lt HK.out rfl hlt
            case rel => exact ⟨k + 1, lst, r.d, dy, r.n, r.i, _, meas_eq HK.out hlt, by go_num, rfl, (P4.out.less (fun g h => .inl h)).mono (by omega) (by omega), HE2.out, SW4.out, HN6.out, HQ4.out, HRD2.out⟩
          · go_wp2_with fail
            go_roundg (gk - 1)
            case measure => exact meas_lt HK.out rfl hlt
            case rel => exact ⟨k + 1, lst, dx, dy, n, i, rd, meas_eq HK.out hlt, by go_num, rfl, (P.out.less (fun g h => .inl h)).mono (by omega) (by omega), HE.out, SW.out, hn, by omega, by omega⟩
    · obtain rfl : k = N := by omega
      clear hlt SW hn hi hrd HK HRR HL
      go_wp2_with fail
      refine (P.out.ally (by omega)).mono ?_
      rintro e w2 ⟨rfl, k2, -⟩
      have hdl : dx.sl.length ≤ 5800 := by have := P.out.krx.facts.2.1; omega
      have hdl2 : dy.sl.length ≤ 5800 := by have := P.out.kry.facts.2.1; omega
      have HLT0 : Hid (∀ s ∈ dx.sl, s.1 < 65536) := fun s hs => by have := P.out.krx.facts.1.nlt s hs; omega
      have KK := Lib.hid (k2.mono (R' := (1600 : Nat)) (n' := 12000) (by omega) (by omega))
      have HVV : Hid (w.heap.size ≤ w2.heap.size) := k2.bel.size
      clear k2 P
      go_wp2_with (go_at_call 34; refine (swnew_any _).mono ?_; rintro e w3 ⟨rfl, rfl⟩)
      have SW : Hid (Swp (w2.alloc (.cells (swCs 0 0 0) 102)) w2.heap.size 0 0 0) := Blk.new _ _ _
      have P := Lib.hid (KK.out.keep (w' := w2.alloc (.cells (swCs 0 0 0) 102)) ((Below.refl _ _).alloc (Nat.le_refl _) _) (S' := fun g => g = w2.heap.size) (fun g hg => .inr ⟨by rw [hg]; exact Nat.le_refl _, by rw [hg]; simp⟩))
      obtain ⟨t, ht⟩ : ∃ t, w2.heap.size = t := ⟨_, rfl⟩
      rw [ht] at SW P HVV
      try simp only [ht]
      clear ht KK
      generalize w2.alloc (.cells (swCs 0 0 0) 102) = W3 at *
      go_wp2_with fail
      go_loopg [] (dx.sl.length + 1) (fun r wr => ∃ (n' i' rd u : Nat) (d' : Dx), K2 w wr (fun g => g = t) x 3 d' y 4 (liveSl dy) 1000 (1600 : Nat) (12000 + u) ∧ Eql d' dy ∧ Swp wr t n' i' rd ∧ n' < 65536 ∧ i' ≤ 100001 ∧ d'.sl.length ≤ 5800 ∧ (∀ s ∈ d'.sl, s.1 < 65536) ∧ ((rd = 0 ∧ r = remX d' n' i' + 1 ∧ u + remX d' n' i' ≤ dx.sl.length ∧ DoneX d' n' i') ∨ (rd = 1 ∧ r = 0 ∧ u ≤ dx.sl.length + 7 ∧ ∀ s ∈ d'.sl, liveE d'.all s.2 = true)))
      case atStart => exact ⟨0, 0, 0, 0, dx, P.out, HE.out, SW.out, by decide, by decide, hdl, HLT0.out, .inl ⟨rfl, by rw [remX_start], by rw [remX_start]; omega, DoneX.start dx⟩⟩
      case round =>
        clear P SW HE HLT0
        obtain ⟨n', i', rd, u, d', hk, hee, hsw, hn, hi, hdl', hlt0, hc⟩ := hrel
        have P := Lib.hid hk
        have HE := Lib.hid hee
        have SW := Lib.hid hsw
        have HLT0 := Lib.hid hlt0
        clear hk hee hsw hlt0
        rcases hc with ⟨rfl, hr, hu, hdn⟩ | ⟨rfl, hr, hu, hlv⟩
        · obtain ⟨r, hrr⟩ : ∃ r, swGo 7 d' n' i' 0 0 = r := ⟨_, rfl⟩
          have hg := go_is 7 d' n' i' 0 0 hn HLT0.out hdn
          rw [hrr] at hg
          have hg0 := go_is0 7 d' n' i' 0 0 hn HLT0.out
          rw [hrr] at hg0
          have HG := Lib.hid hg
          have HG0 := Lib.hid hg0
          have HR := Lib.hid hr
          have HE2 := Lib.hid (HE.out.go hg.nm hg.all hg.keep)
          have HST := Lib.hid (P.out.step SW.out rfl HVV.out 7 (by omega) hn hi (by decide) hrr)
          clear hg hg0 hr hdn hrr HE
          go_wp2_with (first
            | (go_at_call 46; refine (swrounds_any SW.out).mono ?_; rintro e w7 ⟨rfl, rfl⟩)
            | (go_at_call 45; refine HST.out.mono ?_; rintro e w8 ⟨rfl, k8, s8, -⟩; have P8 := Lib.hid k8; have SW8 := Lib.hid s8; clear k8 s8))
          have hsz := HG.out.size
          have hlt1 : ∀ s ∈ r.d.sl, s.1 < 65536 := fun s hs => HLT0.out s (HG.out.sub.subset hs)
          cases hf : r.fin with
          | true =>
            rw [hf] at SW8
            obtain ⟨g1, g2, g3, g4, g5⟩ := HG.out.fin hf
            go_roundg 0
            case measure => have := HR.out; omega
            case rel => exact ⟨r.n, r.i, 1, u + 7, r.d, P8.out, HE2.out, SW8.out, HG0.out.n64, by have := HG0.out.ib; omega, by omega, hlt1, .inr ⟨rfl, rfl, by omega, by rw [HG.out.all]; exact g3⟩⟩
          | false =>
            rw [hf] at SW8
            obtain ⟨g1, g2, g3, g4, g5⟩ := HG.out.on hf
            go_roundg (remX r.d r.n r.i + 1)
            case measure => have := HR.out; omega
            case rel => exact ⟨r.n, r.i, 0, u + 7, r.d, P8.out, HE2.out, SW8.out, HG0.out.n64, by have := HG0.out.ib; omega, by omega, hlt1, .inl ⟨rfl, rfl, by omega, g3⟩⟩
        · have hz : d' = liveSl dy := by rw [← HE.out.2, liveSl_done hlv]
          have hzl := liveSl_live dy
          have hzw := wrong_live dy
          clear hlv HE
          subst hz
          obtain ⟨z, hz⟩ : ∃ z, liveSl dy = z := ⟨_, rfl⟩
          rw [hz] at hzl hzw P
          have HZL := Lib.hid hzl
          have HZW := Lib.hid hzw
          have hub : u ≤ 6000 := by omega
          clear hzl hzw hz HLT0 hdl' hdl hdl2 hr hu
          go_wp2_with (go_at_call 46; refine (swrounds_any SW.out).mono ?_; rintro e w7 ⟨rfl, rfl⟩)
          refine (P.out.krx.knowns).mono ?_
          rintro e w1 ⟨v1, rfl, hv1, b1, _⟩
          obtain ⟨p1, c1, rfl⟩ := owns_form hv1
          have hiw := P.out.krx.facts.1
          have hsl := P.out.krx.facts.2.1
          have hnl := namesL_len z.nm
          have hlv := hiw.liveN (by decide)
          obtain ⟨T, hT⟩ : ∃ T, (namesL z.nm).length = T := ⟨_, rfl⟩
          rw [hT] at hv1 hnl
          have HT := Lib.hid hT
          have HIW := Lib.hid hiw
          have HV1 := Lib.hid hv1
          have P1 := Lib.hid (P.out.quiet b1)
          have hT5 : T ≤ 100000 := by omega
          try rw [hT]
          clear hT hiw hv1 b1 P SW hnl hlv
          go_wp2_with fail
          go_loopg [33] T (fun r v wr => ∃ j : Nat, r + j = T ∧ v = .int .i64 (j : Int) ∧ Below w1.heap.size w1 wr)
          case atStart => exact ⟨0, by omega, rfl, Below.refl _ _⟩
          case round =>
            obtain ⟨j, hj, rfl, hbr⟩ := hrel
            have HJ := Lib.hid hj
            have HBR := Lib.hid hbr
            have hjn : j ≤ T := by omega
            have PR := Lib.hid (P1.out.quiet hbr)
            clear hj hbr
            by_cases hlt : j < T
            · have hlt2 : j < (namesL z.nm).length := by rw [HT.out]; exact hlt
              obtain ⟨sn, hs⟩ : ∃ sn, (namesL z.nm)[j] = sn := ⟨_, rfl⟩
              obtain ⟨m, hm1, hm2', hm3, hm4⟩ := names_find HIW.out.wf (x := sn) (by rw [← hs]; exact List.getElem_mem hlt2)
              obtain ⟨g1, cc, hvf, _, hg1⟩ := HV1.out.form (by omega)
              injection hvf with h1 h2 h3
              subst h1 h3
              have hc := (HBR.out.cell (p := ⟨g1, j, none⟩) hg1).trans (HV1.out.cellAt j (by omega))
              rw [List.getElem?_map, List.getElem?_eq_getElem hlt2, hs] at hc
              change wr.cell? ⟨g1, j, none⟩ = some (.string ⟨sn.toArray⟩) at hc
              have hsz : (⟨sn.toArray⟩ : ByteArray).size ≤ 140737488355328 := by show sn.toArray.size ≤ _; simp; omega
              have hdat : (⟨sn.toArray⟩ : ByteArray).data.toList = sn := by simp
              have hm5 : m < 65536 := by have := live_lt hm2'; have := HIW.out.wf.size; omega
              have hright := HIW.out.right_all HZL.out hm2'
              rw [hm3] at hright
              generalize (⟨sn.toArray⟩ : ByteArray) = sb at hc hsz hdat
              have HC : Hid (∀ w', Below wr.heap.size wr w' → w'.cell? ⟨g1, j, none⟩ = some (.string sb)) := fun w' hb => (hb.cell (p := ⟨g1, j, none⟩) (Nat.lt_of_lt_of_le hg1 HBR.out.size)).trans hc
              have hsl5 : slotsN z.sl (m : Int) = ofX z.sl m := by unfold slotsN; rw [if_pos (numB_lt hm5), Int.toNat_natCast]
              have hnb : (if numB (m : Int) = true then (0 : Int) else 2) = 0 := by rw [if_pos (numB_lt hm5)]
              have hol : (ofX z.sl m).length ≤ 100000 := by have := ofX_len z.sl m; omega
              obtain ⟨tbx, lbx, sbx, ownx, Rdx, lmx, smx, l0x, hryx⟩ := PR.out.krx.ry
              obtain ⟨tby, lby, sby, owny, Rdy, lmy, smy, l0y, hryy⟩ := PR.out.kry.ry
              have HFIND : Hid (Calls Try.prog 51 #[.pointer (some ⟨x, 0, none⟩), .string sb] wr fun e w' => e = .returned (.tuple #[.int .i64 (m : Int), .int .i64 0]) ∧ Below wr.heap.size wr w') := by
                have := rvfinds_any hryx sb hsz
                rw [hdat, hm1] at this
                exact this
              have HSX : Hid (∀ w', Below wr.heap.size wr w' → Calls Try.prog 52 #[.pointer (some ⟨x, 0, none⟩), .int .i64 (m : Int)] w' (RowP w' 29 (idsV (ofX z.sl m)) 0)) := fun w' hb => by
                have := rvslots_any (hryx.below hb) (by omega) (m : Int)
                rw [hsl5, hnb] at this
                exact this
              have HSY : Hid (∀ w', Below wr.heap.size wr w' → Calls Try.prog 52 #[.pointer (some ⟨y, 0, none⟩), .int .i64 (m : Int)] w' (RowP w' 29 (idsV (ofX z.sl m)) 0)) := fun w' hb => by
                have := rvslots_any (hryy.below hb) (by omega) (m : Int)
                rw [hsl5, hnb] at this
                exact this
              have HRG : Hid (∀ w', Below wr.heap.size wr w' → Calls Try.prog 26 #[.pointer (some ⟨x, 0, none⟩), .string sb] w' (NewRow w' 29 (idsV (ofX z.sl m)))) := fun w' hb => by
                have := rvright_any (hryx.below hb) (by omega) sb hsz
                rw [hdat, ← hright] at this
                exact this
              obtain ⟨M, hM⟩ : ∃ M, ofX z.sl m = M := ⟨_, rfl⟩
              rw [hM] at HSX HSY HRG hol
              obtain ⟨TM, hTM⟩ : ∃ TM, M.length = TM := ⟨_, rfl⟩
              have HTM := Lib.hid hTM
              rw [hTM] at hol
              have hrd1 : (idsV M).length ≤ 140737488355328 := by rw [List.length_map, hTM]; omega
              have HRD1 := Lib.hid hrd1
              clear hs hm1 hm2' hm3 hm4 hdat hright h2 hsl5 hnb hsz hryx hryy hM hTM hrd1
              go_wp2_with fail
              refine HFIND.out.mono ?_
              rintro e w2 ⟨rfl, b2⟩
              go_wp2_with fail
              refine (HSX.out _ b2).mono ?_
              rintro e w3 ⟨v3, rfl, hv3, b3⟩
              have b23 := b2.trans (b3.mono b2.size)
              have R3 := Lib.hid (Reads.own_ hv3 rfl HRD1.out)
              rw [List.length_map, HTM.out] at hv3
              obtain ⟨p3, c3, rfl⟩ := owns_form hv3
              go_wp2_with fail
              refine (HSY.out _ b23).mono ?_
              rintro e w4 ⟨v4, rfl, hv4, b4⟩
              have b24 := b23.trans (b4.mono b23.size)
              have R4 := Lib.hid (Reads.own_ hv4 rfl HRD1.out)
              have R34 := Lib.hid (R3.out.below b4)
              rw [List.length_map, HTM.out] at hv4
              obtain ⟨p4, c4, rfl⟩ := owns_form hv4
              clear R3 b2 b3 b23 hv3 hv4
              go_wp2_with fail
              refine (ids_any _ _ M w4 R34.out R4.out).mono ?_
              rintro e w5 ⟨rfl, b5⟩
              have b25 := b24.trans (b5.mono b24.size)
              have R35 := Lib.hid (R34.out.below b5)
              have hc5 := HC.out _ b25
              clear R34 R4 b4 b5 b24 hc
              go_wp2_with fail
              refine (HRG.out _ b25).mono ?_
              rintro e w6 ⟨v6, rfl, hv6, b6⟩
              have b26 := b25.trans (b6.mono b25.size)
              have R6 := Lib.hid (Reads.own_ hv6 rfl HRD1.out)
              have R36 := Lib.hid (R35.out.below b6)
              rw [List.length_map, HTM.out] at hv6
              obtain ⟨p6, c6, rfl⟩ := owns_form hv6
              clear R35 b25 b6 hv6 hc5
              go_wp2_with fail
              refine (ids_any _ _ M w6 R36.out R6.out).mono ?_
              rintro e w8 ⟨rfl, b8⟩
              have b28 := b26.trans (b8.mono b26.size)
              clear R36 R6 b26 b8
              go_wp2_with fail
              go_roundg (T - (j + 1))
              case measure => have := HJ.out; omega
              case rel => exact ⟨j + 1, by omega, by go_num, HBR.out.trans (b28.mono HBR.out.size)⟩
            · obtain rfl : j = T := by omega
              have hsx := PR.out.sizesx
              rw [HZW.out] at hsx
              obtain ⟨Z1, hZ1⟩ : ∃ Z1, z.sl.length = Z1 := ⟨_, rfl⟩
              have hsy := fun w' (hb : Below wr.heap.size wr w') => (PR.out.quiet hb).sizesy
              rw [HZW.out, hZ1] at hsy
              rw [hZ1] at hsx
              have HSX := Lib.hid hsx
              have HSY := Lib.hid hsy
              clear hsx hsy hZ1 hsl
              go_wp2_with fail
              refine HSX.out.mono ?_
              rintro e w2 ⟨rfl, b2⟩
              go_wp2_with fail
              refine (HSY.out _ b2).mono ?_
              rintro e w3 ⟨rfl, b3⟩
              go_wp2_with fail
              refine (sknown_any _).mono ?_
              rintro e w9 ⟨rfl, b9⟩
              go_wp2_with fail
              go_ret
              have b0 := PR.out.bel
              have b03 := (b0.trans (b2.mono b0.size)).trans (b3.mono (b0.trans (b2.mono b0.size)).size)
              exact ⟨rfl, b03.trans (b9.mono b03.size)⟩
theorem sholds_walk (q : Option Addr) (cap : Nat) (L : List Sa) (w : World) (hR : SActs w q L) :
    Calls Try.prog 9 #[.slice q L.length cap] w fun e w' => e = .returned (.bool true) ∧ Below w.heap.size w w' := by
  cases hf : sewB L
  · exact sholds_few q cap L w hR hf
  · exact sholds_some q cap L w hR hf
end Go.Proofs.Ytfpkeinknhijaaa
