/- QuotaHolds. -/
import Derived.Test.YtnofpbhpnhbbpaaQuoV
import Derived.Test.YtnofpbhpnhbbpaaOpenQ
import Derived.Deep.DeepCutAuto
namespace Go.Proofs.Ytnofpbhpnhbbpaa
set_option linter.unusedVariables false
open Go.RowKit Go.Maps Go.Sort

/-- A slice of numbers that came in, cell by cell. -/
def NumsAt (w : World) (p : Option Addr) (k : IntKind) (l : List Int) : Prop := ∀ i x, l[i]? = some x → ∃ blk off, p = some ⟨blk, off, none⟩ ∧ blk < w.heap.size ∧ w.cell? ⟨blk, off + i, none⟩ = some (.int k x)
theorem nums_of {w : World} {v : Value} {k : IntKind} {l : List Int} (h : Reads w v (l.map (Value.int k))) : ∃ p cap, v = .slice p l.length cap ∧ NumsAt w p k l := by
  obtain ⟨p, cap, rfl, hl, h2⟩ := h
  rw [List.length_map] at h2 ⊢
  refine ⟨p, cap, rfl, fun i x hx => ?_⟩
  rcases h2 with h0 | ⟨blk, off, hp, hb, _, hc⟩
  · rw [List.eq_nil_of_length_eq_zero h0] at hx; cases hx
  · exact ⟨blk, off, hp, hb, hc i _ (by rw [List.getElem?_map, hx]; rfl)⟩
theorem mayE_ok {t : Nat} {s : List UInt8} {k : Int} (h1 : 1 ≤ s.length) (h2 : s.length ≤ 32) (h3 : 0 ≤ k) (h4 : t ≤ 4611686018427387904) : mayE t s k = 0 := by
  unfold mayE
  rw [if_neg (by omega), if_neg (by omega)]
/-- What the end of a round knows. -/
theorem wait_now {r : Rl} {a : Acc} {T x : Nat} {k : Int} (hP : 1 ≤ r.P) (hP2 : r.P ≤ 1000) (hT : T ≤ 100000) (hw : a.w ≤ T / r.P) (h : WaitR r a T k x) : decide (x = T) = allowsA r a T k ∧ (x ≠ 18446744073709551615 ∧ T < x → x ≤ 4611686018427387904 ∧ allowsA r a (x - 1) k = false ∧ allowsA r a x k = true) := by
  rcases h with ⟨h1, rfl⟩ | ⟨h1, y, h2, rfl⟩
  · refine ⟨?_, fun h => absurd rfl h.1⟩
    rw [never_no h1, decide_eq_false_iff_not]
    omega
  · have hy : y ≤ 4611686018427387904 := by
      have h3 := h2.hi
      have h4 : T / r.P * r.P ≤ T := Nat.div_mul_le_self _ _
      have h5 : (T / r.P + 2) * r.P = T / r.P * r.P + 2 * r.P := Nat.add_mul _ _ _
      omega
    have e : waitV y = y := if_neg (by omega)
    rw [e]
    refine ⟨h2.now hP hw, fun h => ⟨hy, ?_, h2.yes⟩⟩
    rcases h2.no with e | ⟨_, e⟩
    · omega
    · exact e
theorem copies_no {r : Rl} {a : Acc} {m : List (List UInt8 × Acc)} {T x : Nat} {k : Nat} (ha : mget accZ m meB = a) (hw : a.w ≤ T / r.P) (hl : m.length < 1000) (hx : T < x) (h : allowsA r a (x - 1) k = false) : askM r (max T (x - 1)) m meB k = (false, 0, m) := by
  have e : max T (x - 1) = x - 1 := by omega
  have hd : T / r.P ≤ (x - 1) / r.P := Nat.div_le_div_right (by omega)
  rw [e, askM_is (by rw [ha]; omega) hl, ha, h]
  simp
theorem copies_yes {r : Rl} {a : Acc} {m : List (List UInt8 × Acc)} {T x : Nat} {k : Nat} (ha : mget accZ m meB = a) (hw : a.w ≤ T / r.P) (hl : m.length < 1000) (hx : T < x) (h : allowsA r a x k = true) : ∃ m', askM r (max T x) m meB k = (true, 0, m') := by
  have e : max T x = x := by omega
  have hd : T / r.P ≤ x / r.P := Nat.div_le_div_right (by omega)
  rw [e, askM_is (by rw [ha]; omega) hl, ha, h]
  exact ⟨_, rfl⟩
theorem getI (l : List Int) (i : Nat) (h : i < l.length) : ∃ x, l[i]? = some x := ⟨l[i], List.getElem?_eq_getElem h⟩
set_option maxHeartbeats 8000000 in
set_option maxRecDepth 100000 in
theorem holds_walk (pp cc dd : Int) (u v : Value) (l1 l2 : List Int) (w : World) (h1 : Reads w u (l1.map (Value.int .u8))) (h2 : Reads w v (l2.map (Value.int .u16))) (hl1 : l1.length ≤ 140737488355328) (hl2 : l2.length ≤ 140737488355328)
    (x1 : ∀ x ∈ l1, 0 ≤ x ∧ x ≤ 255) (x2 : ∀ x ∈ l2, 0 ≤ x ∧ x ≤ 65535) :
    Calls Try.prog 4 #[.agg #[.int .u64 pp, .int .i64 cc, .int .i64 dd], u, v] w fun e w' => e = .returned (.bool true) ∧ Below w.heap.size w w' := by
  obtain ⟨p1, k1, rfl, n1⟩ := nums_of h1
  obtain ⟨p2, k2, rfl, n2⟩ := nums_of h2
  have N1 := Lib.hid n1
  have N2 := Lib.hid n2
  have X1 := Lib.hid x1
  have X2 := Lib.hid x2
  clear h1 h2 n1 n2 x1 x2
  have HK := Lib.hid (fun w' : World => known_any w')
  have HV := Lib.hid (fun w' : World => valid_any pp cc dd w')
  have hb0 : Below w.heap.size w (w.alloc (.cells #[.int .u64 pp, .int .i64 cc, .int .i64 dd] 30)) := (Below.refl _ _).alloc (Nat.le_refl _) _
  have hbx := Blk.new w 30 #[.int .u64 pp, .int .i64 cc, .int .i64 dd]
  obtain ⟨W, hW⟩ : ∃ W, w.alloc (.cells #[.int .u64 pp, .int .i64 cc, .int .i64 dd] 30) = W := ⟨_, rfl⟩
  rw [hW] at hb0 hbx
  have hWs : W.heap.size = w.heap.size + 1 := by rw [← hW]; simp
  have HW := Lib.hid hW
  have HWS := Lib.hid hWs
  have HB0 := Lib.hid hb0
  clear hW hWs hb0
  cases hrb : ruleB pp cc dd
  · rw [hrb] at HV
    clear hrb
    have y0 := hbx.cell 0
    have y1 := hbx.cell 1
    have y2 := hbx.cell 2
    go_enter Try.func4, Try.ntmps4
    go_wp2_with fail
    rw [HW.out]
    go_wp2_with fail
    refine (HV.out W).mono ?_
    rintro e w1 ⟨rfl, b1⟩
    go_wp2_with fail
    refine (HK.out w1).mono ?_
    rintro e w2 ⟨rfl, b2⟩
    go_wp2_with fail
    go_ret
    exact ⟨rfl, (HB0.out.trans (b1.mono HB0.out.size)).trans (b2.mono (Nat.le_trans HB0.out.size b1.size))⟩
  · rw [hrb] at HV
    obtain ⟨r, rfl, rfl, rfl, hr⟩ : ∃ r : Rl, pp = (r.P : Int) ∧ cc = (r.C : Int) ∧ dd = (r.B : Int) ∧ RlOk r := by
      unfold ruleB at hrb
      simp only [Bool.and_eq_true, decide_eq_true_eq] at hrb
      exact ⟨⟨pp.toNat, cc.toNat, dd.toNat⟩, by dsimp only; omega, by dsimp only; omega, by dsimp only; omega, ⟨by dsimp only; omega, by dsimp only; omega, by dsimp only; omega, by dsimp only; omega⟩⟩
    clear hrb
    have y0 := hbx.cell 0
    have y1 := hbx.cell 1
    have y2 := hbx.cell 2
    by_cases hsmall : r.P ≤ 1000 ∧ l1.length ≤ 30 ∧ l2.length ≤ 30
    · obtain ⟨s1, s2, s3⟩ := hsmall
      have i1 : (r.P : Int) ≤ 1000 := by omega
      have i2 : (l1.length : Int) ≤ 30 := by omega
      have i3 : (l2.length : Int) ≤ 30 := by omega
      have HBX := Lib.hid hbx
      have HN := Lib.hid (fun W : World => new_ok r hr W)
      go_enter Try.func4, Try.ntmps4
      go_wp2_with fail
      rw [HW.out]
      clear HW
      go_wp2_with fail
      refine (HV.out W).mono ?_
      rintro e w1 ⟨rfl, b1⟩
      have hq1 := HBX.out.below b1 HBX.out.lt
      have HB1 := Lib.hid (HB0.out.trans (b1.mono HB0.out.size))
      have hz1 : w.heap.size + 1 ≤ w1.heap.size := by have := HWS.out; have := b1.size; omega
      clear y0 y1 y2 hbx b1 HV
      have y0 := hq1.cell 0
      have y1 := hq1.cell 1
      have y2 := hq1.cell 2
      have HBX1 := Lib.hid hq1
      clear hq1
      go_wp2_with fail
      refine (HN.out w1).mono ?_
      rintro e w2 ⟨g1, b1, rfl, q1, v1, v2, b2⟩
      have hq2 := HBX1.out.below b2 HBX1.out.lt
      have HB2 := Lib.hid (HB1.out.trans (b2.mono HB1.out.size))
      have hz2 := b2.size
      have HQ1 := Lib.hid q1
      have hg1 := q1.bk.lt
      have hb1 := q1.mp.lt
      clear y0 y1 y2 b2 q1
      have y0 := hq2.cell 0
      have y1 := hq2.cell 1
      have y2 := hq2.cell 2
      have HBX2 := Lib.hid hq2
      clear hq2
      go_wp2_with fail
      refine (HN.out w2).mono ?_
      rintro e w3 ⟨g2, b2, rfl, q2, v3, v4, b3⟩
      have S0 : Hid (B2 w w3 r g1 b1 0 0 [] g2 b2 0 0 []) :=
        ⟨HQ1.out.below b3, q2, by omega, by omega, by omega, by omega, by omega, by omega, by omega, by omega, HBX2.out.below b3 HBX2.out.lt, HB2.out.trans (b3.mono HB2.out.size)⟩
      have HS := Lib.hid (HI.start r)
      have hzero : (0 : Nat) / r.P = 0 := Nat.zero_div _
      have HZ := Lib.hid hzero
      clear y0 y1 y2 HBX HBX1 HBX2 HB0 HB1 HB2 HQ1 q2 b3 HWS hz1 hz2 hg1 hb1 v1 v2 v3 v4 HN hzero
      go_wp2_with fail
      go_loopg [11, 12, 13, 14, 15] l1.length (fun q s11 s12 s13 s14 s15 wr => ∃ (i now wd n s n1 n2 c1 c2 : Nat) (m1 m2 : List (List UInt8 × Acc)), q + i = l1.length ∧ s15 = .int .i64 (i : Int) ∧ s11 = .int .u64 (now : Int) ∧ s12 = .int .u64 (wd : Int) ∧ s13 = .int .i64 (n : Int) ∧ s14 = .int .i64 (s : Int) ∧ wd = now / r.P ∧ now ≤ 200 * i ∧ n1 ≤ 2 * i ∧ n2 ≤ i ∧ c1 ≤ now ∧ c2 ≤ now ∧ HI r now m1 m2 n s ∧ B2 w wr r g1 b1 n1 c1 m1 g2 b2 n2 c2 m2)
      case atStart => exact ⟨0, 0, 0, 0, 0, 0, 0, 0, 0, [], [], rfl, rfl, rfl, rfl, rfl, rfl, HZ.out.symm, by omega, by omega, by omega, Nat.le_refl _, Nat.le_refl _, HS.out, S0.out⟩
      case round => as_aux_lemma =>
        clear S0 HS HZ
        obtain ⟨i, now, wd, n, s, n1, n2, c1, c2, m1, m2, hq, rfl, rfl, rfl, rfl, rfl, hwd, hnow, hn1, hn2, hc1, hc2, hi, hs⟩ := hrel
        have HQ := Lib.hid hq
        have hil : i ≤ l1.length := by omega
        clear hq
        by_cases hlt : i < l1.length
        · obtain ⟨x, hx⟩ := getI l1 i hlt
          obtain ⟨blk, off, rfl, hbk, hc⟩ := N1.out i x hx
          have hcw := (hs.bel.cell (p := ⟨blk, off + i, none⟩) hbk).trans hc
          obtain ⟨hx0, hx1⟩ := X1.out x (List.mem_of_getElem? hx)
          obtain ⟨xn, rfl⟩ : ∃ xn : Nat, x = (xn : Int) := ⟨x.toNat, by omega⟩
          have HI0 := Lib.hid hi
          have HS0 := Lib.hid hs
          have HWD := Lib.hid hwd
          have y0 := hs.box.cell 0
          clear hx hc hi hs hwd
          have hkk : ∃ kN : Nat, (i < l2.length → l2[i]? = some (kN : Int)) ∧ (l2.length ≤ i → kN = 0) ∧ kN ≤ 65535 := by
            rcases Nat.lt_or_ge i l2.length with hl | hl
            · obtain ⟨z, hz⟩ := getI l2 i hl
              obtain ⟨z0, z1⟩ := X2.out z (List.mem_of_getElem? hz)
              obtain ⟨zn, rfl⟩ : ∃ zn : Nat, z = (zn : Int) := ⟨z.toNat, by omega⟩
              exact ⟨zn, fun _ => hz, fun h => by omega, by omega⟩
            · exact ⟨0, fun h => by omega, fun _ => rfl, by omega⟩
          obtain ⟨kN, hkA, hkB, hkC⟩ := hkk
          have HKA := Lib.hid hkA
          have HKB := Lib.hid hkB
          obtain ⟨T, hT⟩ : ∃ T : Nat, (T : Int) = (now : Int) + (xn : Int) % 200 := ⟨now + xn % 200, by omega⟩
          have hT1 : now ≤ T := by omega
          have hT2 : T ≤ now + 199 := by omega
          obtain ⟨wd', hwd'⟩ : ∃ wd' : Nat, wd' = T / r.P := ⟨_, rfl⟩
          have hdiv : (T : Int) / (r.P : Int) = (wd' : Int) := by rw [hwd']; simp
          have HWD' := Lib.hid hwd'
          have hwq : IntKind.u64.wrap (wd' : Int) = (wd' : Int) := IntWalk.u64_in _ (by have := Nat.div_le_self T r.P; omega)
          have hi1 := HI0.out.later hr.P hT1
          obtain ⟨n', hn'⟩ : ∃ n', n' = if T / r.P = now / r.P then n else 0 := ⟨_, rfl⟩
          obtain ⟨s', hs'⟩ : ∃ s', s' = if T / r.P = now / r.P then s else 0 := ⟨_, rfl⟩
          rw [← hn', ← hs'] at hi1
          rw [← hwd', ← HWD.out] at hn' hs'
          have HI1 := Lib.hid hi1
          have HN' := Lib.hid hn'
          have HS' := Lib.hid hs'
          have hPn : r.P ≠ 0 := by have := hr.P; omega
          have hT0 := Lib.hid hT
          clear hkA hkB hwd' hi1 hn' hs' hT
          go_upto_region 13 with (fail)
          rw [← hT0.out]
          go_upto_if 90 with (fail)
          go_cut [12, 13, 14] (fun s12 s13 s14 wx => s12 = .int .u64 (wd' : Int) ∧ s13 = .int .i64 (n' : Int) ∧ s14 = .int .i64 (s' : Int) ∧ wr = wx)
          case first => as_aux_lemma =>
            by_cases hw : wd' = wd
            · have e1 := Lib.hid (show n' = n by have := HN'.out; rwa [if_pos hw] at this)
              have e2 := Lib.hid (show s' = s by have := HS'.out; rwa [if_pos hw] at this)
              have hb1 : ((wd' : Int) != (wd : Int)) = false := by rw [hw]; simp
              have hw := Lib.hid hw
              go_wp2_with fail
              go_meet
              exact ⟨by rw [hw.out], by rw [e1.out], by rw [e2.out], rfl⟩
            · have e1 := Lib.hid (show n' = 0 by have := HN'.out; rwa [if_neg hw] at this)
              have e2 := Lib.hid (show s' = 0 by have := HS'.out; rwa [if_neg hw] at this)
              have hb1 : ((wd' : Int) != (wd : Int)) = true := by simp; omega
              clear hw
              go_wp2_with fail
              go_meet
              exact ⟨rfl, by rw [e1.out]; rfl, by rw [e2.out]; rfl, rfl⟩
          case rest => as_aux_lemma =>
            obtain ⟨rfl, rfl, rfl, rfl⟩ := hcut
            go_upto_if 98 with (fail)
            go_cut [16] (fun s16 wx => s16 = .int .i64 (kN : Int) ∧ wr = wx)
            case first => as_aux_lemma =>
              by_cases hl : i < l2.length
              · obtain ⟨blk2, off2, rfl, hbk2, hc2⟩ := N2.out i _ (HKA.out hl)
                have hcw2 := (HS0.out.bel.cell (p := ⟨blk2, off2 + i, none⟩) hbk2).trans hc2
                clear hc2
                go_wp2_with fail
                go_meet
                exact ⟨rfl, rfl⟩
              · have e1 := Lib.hid (HKB.out (by omega))
                go_wp2_with fail
                go_meet
                exact ⟨by rw [e1.out]; rfl, rfl⟩
            case rest => as_aux_lemma =>
              obtain ⟨rfl, rfl⟩ := hcut
              have hi2 := HI1.out.other HS0.out.q1.apart kN
              have ho := HS0.out.ask1 hr T (by omega) ⟨#[111, 116, 104, 101, 114]⟩ kN (askM r T m1 otherB kN) rfl (by decide) (by omega) (mayE_ok (by decide) (by decide) (by omega) (by omega)) (by omega)
              generalize askM r T m1 otherB kN = R1 at ho hi2
              obtain ⟨res1, er1, m1'⟩ := R1
              dsimp only at ho hi2
              have HO := Lib.hid ho
              have HI2 := Lib.hid hi2
              clear ho hi2 HS0 HI1 HI0 HKA HKB hT0 HN' HS' HWD hcw hdiv hwq y0
              go_wp2_with fail
              refine HO.out.mono ?_
              rintro e w4 ⟨rfl, t1⟩
              have hleft := HI2.out.leftB kN
              have hL := t1.left1 hr T (Nat.le_refl _) ⟨#[109, 101]⟩ (by decide) (by omega) (mayE_ok (by decide) (by decide) (by omega) (by omega))
              change Calls _ _ _ _ (fun e w' => e = Ending.returned (.tuple #[.int .i64 (leftA r.C (used0 r.P (mget accZ m1' meB) T)), .int .i64 (leftA r.B (used1 r.P (mget accZ m1' meB) T)), .int .i64 0]) ∧ _) at hL
              generalize leftA r.C (used0 r.P (mget accZ m1' meB) T) = X at hL hleft
              generalize leftA r.B (used1 r.P (mget accZ m1' meB) T) = Y at hL hleft
              have HL := Lib.hid hL
              have HLEFT := Lib.hid hleft
              clear t1 hL hleft HO
              go_wp2_with fail
              refine HL.out.mono ?_
              rintro e w5 ⟨rfl, t2⟩
              have HWT := Lib.hid (t2.wait1 hr T (Nat.le_refl _) ⟨#[109, 101]⟩ (kN : Int) (by decide) (by omega) (mayE_ok (by decide) (by decide) (by omega) (by omega)) HI2.out.e.w)
              clear t2 HL
              go_wp2_with fail
              refine HWT.out.mono ?_
              rintro e w6 ⟨x, rfl, hwr, t3⟩
              obtain ⟨hxn, hxc⟩ := wait_now hr.P s1 (by omega) HI2.out.e.w hwr
              have hlen1 : m1'.length < 1000 := by have := t3.q1.mp.size; omega
              have hlen2 : m2.length < 1000 := by have := t3.q2.mp.size; omega
              obtain ⟨is, m1'', m2'', his, qa, qb, hi3, hsame⟩ := HI2.out.ask hr.P t3.q1.apart t3.q2.apart hlen1 hlen2 kN
              have hA1 := t3.ask1 hr T (Nat.le_refl _) ⟨#[109, 101]⟩ kN (is, 0, m1'') qa (by decide) (by omega) (mayE_ok (by decide) (by decide) (by omega) (by omega)) (by omega)
              have hway : (is = true ∧ 1 ≤ X ∧ (kN : Int) ≤ Y ∧ x = T) ∨ (is = false ∧ X < 1 ∧ ¬ x = T) ∨ (is = false ∧ 1 ≤ X ∧ Y < (kN : Int) ∧ ¬ x = T) := by
                have h1 := HLEFT.out
                rw [← his] at h1 hxn
                cases is
                · rw [decide_eq_false_iff_not] at hxn
                  rw [Bool.and_eq_false_iff, decide_eq_false_iff_not, decide_eq_false_iff_not] at h1
                  by_cases h2 : 1 ≤ X
                  · rcases h1 with h1 | h1
                    · exact absurd h2 h1
                    · exact .inr (.inr ⟨rfl, h2, by omega, hxn⟩)
                  · exact .inr (.inl ⟨rfl, by omega, hxn⟩)
                · rw [decide_eq_true_eq] at hxn
                  rw [Bool.and_eq_true, decide_eq_true_eq, decide_eq_true_eq] at h1
                  exact .inl ⟨rfl, h1.1, h1.2, hxn⟩
              have hroom := hi3.roomN
              have HXC := Lib.hid hxc
              have HA1 := Lib.hid hA1
              have HI3 := Lib.hid hi3
              have HSAME := Lib.hid hsame
              have HWAY := Lib.hid hway
              have HQB := Lib.hid qb
              have HW2 := Lib.hid HI2.out.e.w
              clear hxn hxc hA1 hi3 hsame hway his qa qb t3 hwr HWT HLEFT HI2
              go_wp2_with fail
              refine HA1.out.mono ?_
              rintro e w7 ⟨rfl, t4⟩
              have HA2 := Lib.hid (t4.ask2 hr T (by omega) ⟨#[109, 101]⟩ kN (is, 0, m2'') HQB.out (by decide) (by omega) (mayE_ok (by decide) (by decide) (by omega) (by omega)) (by omega))
              clear t4 HA1
              go_wp2_with fail
              refine HA2.out.mono ?_
              rintro e w8 ⟨rfl, t5⟩
              have y1 := t5.box.cell 1
              have y2 := t5.box.cell 2
              have T5 := Lib.hid t5
              clear t5 HA2 HQB
              go_upto_region 23 with (fail)
              go_cut [172] (fun s172 wx => s172 = .bool false ∧ w8 = wx)
              case first => as_aux_lemma =>
                have hw := HWAY.out
                rcases hw with ⟨rfl, f1, f2, f3⟩ | ⟨rfl, f1, f3⟩ | ⟨rfl, f1, f2, f3⟩
                · have hb1 : ((x : Int) == (T : Int)) = true := by rw [f3]; simp
                  clear f3
                  go_wp2_with fail
                  go_meet
                  exact ⟨rfl, rfl⟩
                · have hb1 : ((x : Int) == (T : Int)) = false := by simp; omega
                  clear f3
                  go_wp2_with fail
                  go_meet
                  exact ⟨rfl, rfl⟩
                · have hb1 : ((x : Int) == (T : Int)) = false := by simp; omega
                  have hb2 : decide ((kN : Int) ≤ Y) = false := by rw [decide_eq_false_iff_not]; omega
                  clear f3
                  go_wp2_with fail
                  go_meet
                  exact ⟨by first | rfl | rw [hb2], rfl⟩
              case rest => as_aux_lemma =>
                obtain ⟨rfl, rfl⟩ := hcut
                obtain ⟨nn, hnn⟩ : ∃ nn : Nat, nn = if is = true then n' + 1 else n' := ⟨_, rfl⟩
                obtain ⟨ss, hss⟩ : ∃ ss : Nat, ss = if is = true then s' + kN else s' := ⟨_, rfl⟩
                rw [← hnn, ← hss] at hroom HI3
                have HNN := Lib.hid hnn
                have HSS := Lib.hid hss
                have hr1 : (nn : Int) ≤ (r.C : Int) := by omega
                have hr2 : (ss : Int) ≤ (r.B : Int) := by omega
                have hCB := hr.C
                have hBB := hr.B
                clear hnn hss hroom
                go_upto_if 173 with (fail)
                go_cut [13, 14] (fun s13 s14 wx => s13 = .int .i64 (nn : Int) ∧ s14 = .int .i64 (ss : Int) ∧ w8 = wx)
                case first => as_aux_lemma =>
                  cases is
                  · have e1 := Lib.hid (show nn = n' from HNN.out)
                    have e2 := Lib.hid (show ss = s' from HSS.out)
                    go_wp2_with fail
                    go_meet
                    exact ⟨by rw [e1.out], by rw [e2.out], rfl⟩
                  · have e1 := Lib.hid (show nn = n' + 1 from HNN.out)
                    have e2 := Lib.hid (show ss = s' + kN from HSS.out)
                    have hn3 : (n' : Int) + 1 ≤ 1073741824 := by have := e1.out; omega
                    have hs3 : (s' : Int) + (kN : Int) ≤ 1073741824 := by have := e2.out; omega
                    go_wp2_with fail
                    go_meet
                    exact ⟨by rw [e1.out]; go_num, by rw [e2.out]; go_num, rfl⟩
                case rest => as_aux_lemma =>
                  obtain ⟨rfl, rfl, rfl⟩ := hcut
                  by_cases hcop : x ≠ 18446744073709551615 ∧ T < x
                  · obtain ⟨hx62, hno, hyes⟩ := HXC.out hcop
                    have hisf : Hid (is = false) := by
                      rcases HWAY.out with ⟨_, _, _, h⟩ | ⟨h, _⟩ | ⟨h, _⟩
                      · exfalso; omega
                      · exact h
                      · exact h
                    have HM := Lib.hid (HSAME.out hisf.out)
                    have hxt : (T : Int) < (x : Int) := by omega
                    have hxn : ((x : Int) != 18446744073709551615) = true := by simp; omega
                    have HNO := Lib.hid hno
                    have HYES := Lib.hid hyes
                    have hTx := hcop.2
                    clear hno hyes hcop
                    go_wp2_with fail
                    refine (copy_any g1 b1 _ r T m1'' w8 T5.out.q1).mono ?_
                    rintro e w9 ⟨g3, b3, rfl, q3, v5, v6, bb9⟩
                    have t6 := T5.out.quiet bb9
                    have HC4 := Lib.hid (copy_any g1 b1 _ r T m1'' w9 t6.q1)
                    have HQ3 := Lib.hid q3
                    have BB9 := Lib.hid bb9
                    have hg3 := q3.bk.lt
                    have hb3 := q3.mp.lt
                    clear q3 bb9 t6
                    go_wp2_with fail
                    refine HC4.out.mono ?_
                    rintro e w10 ⟨g4, b4, rfl, q4, v7, v8, bb10⟩
                    have q3 := HQ3.out.below bb10
                    have hml : m1'.length < 1000 := by have := T5.out.q1.mp.size; rw [HM.out] at this; omega
                    have hn3 := copies_no (k := kN) (m := m1'') (by rw [HM.out]) HW2.out (by rw [HM.out]; exact hml) hTx HNO.out
                    obtain ⟨m4, hn4⟩ := copies_yes (k := kN) (m := m1'') (by rw [HM.out]) HW2.out (by rw [HM.out]; exact hml) hTx HYES.out
                    have hcast : ((x - 1 : Nat) : Int) = (x : Int) - 1 := by omega
                    have ha3 := asks_any q3 hr (x - 1) ⟨#[109, 101]⟩ kN false m1'' hn3 (by decide) (by omega) (mayE_ok (by decide) (by decide) (by omega) (by omega)) (by omega)
                    rw [hcast] at ha3
                    have HA3 := Lib.hid ha3
                    have HQ4 := Lib.hid q4
                    have BB10 := Lib.hid (BB9.out.trans (bb10.mono BB9.out.size))
                    have hsz9 := BB9.out.size
                    have hsz10 := bb10.size
                    have HN4 := Lib.hid hn4
                    clear ha3 hcast q3 q4 bb10 hn3 hn4 HC4
                    go_wp2_with fail
                    refine HA3.out.mono ?_
                    rintro e w11 ⟨rfl, q3, o3⟩
                    have q4 := HQ4.out.only o3 (by omega) (by omega)
                    have HA4 := Lib.hid (asks_any q4 hr x ⟨#[109, 101]⟩ kN true m4 HN4.out (by decide) (by omega) (mayE_ok (by decide) (by decide) (by omega) (by omega)) (by omega))
                    have BB11 := Lib.hid (BB10.out.trans (o3.below (fun i hi => by omega) BB10.out.size))
                    clear q3 q4 o3 HA3 HQ3 HQ4 HN4
                    go_wp2_with fail
                    refine HA4.out.mono ?_
                    rintro e w12 ⟨rfl, q4, o4⟩
                    have T6 := Lib.hid (T5.out.quiet (BB11.out.trans (o4.below (fun i hi => by omega) BB11.out.size)))
                    clear q4 o4 HA4 y1 y2
                    go_wp2_with fail
                    go_roundg (gk - 1)
                    case measure => have := HQ.out; omega
                    case rel => exact ⟨i + 1, T, wd', nn, ss, n1 + 1 + 1, n2 + 1, T, T, m1'', m2'', by have := HQ.out; omega, by go_num, rfl, rfl, rfl, rfl, HWD'.out, by omega, by omega, by omega, Nat.le_refl _, Nat.le_refl _, HI3.out, T6.out⟩
                  · have hcc : x = 18446744073709551615 ∨ x ≤ T := by omega
                    have HC := Lib.hid hcc
                    clear hcop hcc
                    rcases HC.out with hx0 | hx0
                    · have hb1 : ((x : Int) != 18446744073709551615) = false := by rw [hx0]; rfl
                      clear hx0
                      go_wp2_with fail
                      go_roundg (gk - 1)
                      case measure => have := HQ.out; omega
                      case rel => exact ⟨i + 1, T, wd', nn, ss, n1 + 1 + 1, n2 + 1, T, T, m1'', m2'', by have := HQ.out; omega, by go_num, rfl, rfl, rfl, rfl, HWD'.out, by omega, by omega, by omega, Nat.le_refl _, Nat.le_refl _, HI3.out, T5.out⟩
                    · have hb1 : ((x : Int) != 18446744073709551615) = true := by simp; omega
                      have hxt : (x : Int) ≤ (T : Int) := by omega
                      clear hx0
                      go_wp2_with fail
                      go_roundg (gk - 1)
                      case measure => have := HQ.out; omega
                      case rel => exact ⟨i + 1, T, wd', nn, ss, n1 + 1 + 1, n2 + 1, T, T, m1'', m2'', by have := HQ.out; omega, by go_num, rfl, rfl, rfl, rfl, HWD'.out, by omega, by omega, by omega, Nat.le_refl _, Nat.le_refl _, HI3.out, T5.out⟩
        · obtain rfl : i = l1.length := by omega
          have HB := Lib.hid hs.bel
          clear hi hs hwd
          go_wp2_with fail
          refine (HK.out wr).mono ?_
          rintro e w4 ⟨rfl, b4⟩
          go_wp2_with fail
          go_ret
          exact ⟨rfl, HB.out.trans (b4.mono HB.out.size)⟩
    · have H : Hid (¬ (r.P ≤ 1000 ∧ l1.length ≤ 30 ∧ l2.length ≤ 30)) := Lib.hid hsmall
      clear hsmall
      have hbx2 : Hid (∀ w1, Below W.heap.size W w1 → Blk w1 w.heap.size 30 #[.int .u64 (r.P : Int), .int .i64 (r.C : Int), .int .i64 (r.B : Int)]) := fun w1 hb => hbx.below hb hbx.lt
      go_enter Try.func4, Try.ntmps4
      go_wp2_with fail
      rw [HW.out]
      go_wp2_with fail
      refine (HV.out W).mono ?_
      rintro e w1 ⟨rfl, b1⟩
      have hq := hbx2.out w1 b1
      clear y0 y1 y2 hbx
      have y0 := hq.cell 0
      go_wp2_with fail
      all_goals first
        | (exfalso; exact H.out ⟨by omega, by omega, by omega⟩)
        | skip
      all_goals
        refine (HK.out w1).mono ?_
        rintro e w2 ⟨rfl, b2⟩
        go_wp2_with fail
        go_ret
        exact ⟨rfl, (HB0.out.trans (b1.mono HB0.out.size)).trans (b2.mono (Nat.le_trans HB0.out.size b1.size))⟩
end Go.Proofs.Ytnofpbhpnhbbpaa
