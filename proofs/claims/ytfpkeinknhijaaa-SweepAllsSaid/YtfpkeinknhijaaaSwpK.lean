/- SweepSizes, for all arguments. -/
import Derived.Test.YtfpkeinknhijaaaSwpO
import Derived.Test.YtfpkeinknhijaaaSwpI
import Derived.Test.YtfpkeinknhijaaaSwpQ
namespace Go.Proofs.Ytfpkeinknhijaaa
set_option linter.unusedVariables false
open Go.RowKit Go.Maps Go.Sort

set_option maxHeartbeats 4000000 in
set_option maxRecDepth 100000 in
theorem ssizes_many (q : Option Addr) (N cap : Nat) (g : Int) (pz : Option Addr) (M cz : Nat) (h : 20 < N ∨ 50 < M) (w : World) :
    Calls Try.prog 6 #[.slice q N cap, .int .u32 g, .slice pz M cz] w fun e w' => e = .returned (.bool true) ∧ Below w.heap.size w w' := by
  by_cases h1 : 20 < N
  · go_enter Try.func6, Try.ntmps6
    go_wp2_with fail
    refine (sknown_any _).mono ?_
    rintro e w2 ⟨rfl, b2⟩
    go_wp2_with fail
    go_ret
    exact ⟨rfl, b2⟩
  · have h2 : 50 < M := by omega
    go_enter Try.func6, Try.ntmps6
    go_wp2_with fail
    refine (sknown_any _).mono ?_
    rintro e w2 ⟨rfl, b2⟩
    go_wp2_with fail
    go_ret
    exact ⟨rfl, b2⟩
/-- One call alone, in a row of its own. -/
theorem sacts_one {w : World} {X : Ts} (hX : StrsAt w X.p X.cap X.ts) : SActs (w.alloc (.cells #[.int .i64 0, .int .u64 0, .slice X.p X.ts.length X.cap, .int .i64 0] 78)) (some ⟨w.heap.size, 0, none⟩) [⟨0, 0, X.p, X.cap, X.ts, 0⟩] := by
  intro i Y hY
  rcases i with _ | i
  · simp only [List.getElem?_cons_zero, Option.some.injEq] at hY
    subst hY
    refine ⟨⟨Nat.zero_le _, ⟨by show _ ≤ (0 : Int); omega, by show (0 : Int) ≤ _; omega⟩, by show _ ≤ (0 : Int); omega, by show (0 : Int) ≤ _; omega⟩, hX.below ((Below.refl _ _).alloc (Nat.le_refl _) _), w.heap.size, 0, rfl, by simp, fun j hj => ?_⟩
    rw [show 0 + 0 * 4 + j = j by omega, Blk.cell (Blk.new w 78 #[.int .i64 0, .int .u64 0, .slice X.p X.ts.length X.cap, .int .i64 0]) j]
    simp [sacs]
  · simp at hY
set_option maxHeartbeats 16000000 in
set_option maxRecDepth 100000 in
theorem ssizes_some (q : Option Addr) (cap : Nat) (L : List Ts) (g : Int) (pz : Option Addr) (cz : Nat) (Z : List Int) (hN : L.length ≤ 20) (hM : Z.length ≤ 50) (hzb : ∀ z ∈ Z, 0 ≤ z ∧ z ≤ 255) (w : World) (hT : TActs w q L) (hZ : Reads w (.slice pz Z.length cz) (Z.map (Value.int .u8))) :
    Calls Try.prog 6 #[.slice q L.length cap, .int .u32 g, .slice pz Z.length cz] w fun e w' => e = .returned (.bool true) ∧ Below w.heap.size w w' := by
  have HT := Lib.hid hT
  have HZ := Lib.hid hZ
  have HZB := Lib.hid hzb
  obtain ⟨N, hNe⟩ : ∃ N, L.length = N := ⟨_, rfl⟩
  obtain ⟨M, hMe⟩ : ∃ M, Z.length = M := ⟨_, rfl⟩
  rw [hNe] at hN ⊢
  rw [hMe] at HZ hM ⊢
  have HN := Lib.hid hNe
  have HM := Lib.hid hMe
  have h1 : ¬ 20 < N := by omega
  have h2 : ¬ 50 < M := by omega
  clear hT hZ hzb hNe hMe
  go_enter Try.func6, Try.ntmps6
  go_wp2_with fail
  refine (Kr.start w w (Below.refl _ _) 1000 2 (by decide) (by decide) (by decide) (by decide)).mono ?_
  rintro e w1 ⟨x, rfl, k1, _⟩
  have K1 := Lib.hid k1
  clear k1
  go_wp2_with (go_at_call 34; refine (swnew_any _).mono ?_; rintro e w2 ⟨rfl, rfl⟩)
  have SK := Lib.hid (K1.out.sweeper rfl)
  obtain ⟨s, hs⟩ : ∃ s, w1.heap.size = s := ⟨_, rfl⟩
  rw [hs] at SK
  try simp only [hs]
  clear hs K1
  generalize w1.alloc (.cells (swCs 0 0 0) 102) = W2 at *
  go_wp2_with fail
  go_loopg [10] N (fun r v wr => ∃ (k : Nat) (d : Dx), k ≤ N ∧ r + k = N ∧ v = .int .i64 (k : Int) ∧ Sk w wr (fun _ => False) x 1000 2 (16 * k : Nat) (16 * k) d s 0 0 0)
  case atStart => exact ⟨0, _, by omega, by omega, rfl, SK.out⟩
  case round =>
    clear SK
    obtain ⟨k, d, hkn, hr, rfl, hk⟩ := hrel
    have SK := Lib.hid hk
    have HR := Lib.hid hr
    clear hk hr
    by_cases hlt : k < N
    · obtain ⟨X, hX⟩ : ∃ X, L[k]? = some X := ⟨_, List.getElem?_eq_getElem (by rw [HN.out]; exact hlt)⟩
      obtain ⟨hst, blk, off, rfl, hbl, hc⟩ := (HT.out.below SK.out.bel) k X hX
      have hbe : Below wr.heap.size wr (wr.alloc (.cells #[.int .i64 0, .int .u64 0, .slice X.p X.ts.length X.cap, .int .i64 0] 78)) := (Below.refl _ _).alloc (Nat.le_refl _) _
      have hc2 := (hbe.cell (p := ⟨blk, off + k, none⟩) hbl).trans hc
      have hF := sew_any (some ⟨wr.heap.size, 0, none⟩) 1 _ _ (sacts_one hst)
      unfold SewP at hF
      have HST := Lib.hid hst
      have SK2 := Lib.hid (SK.out.quiet hbe)
      have HBE := Lib.hid hbe
      clear hst hbe hX
      cases hB : sewB [⟨0, 0, X.p, X.cap, X.ts, 0⟩] with
      | false =>
        rw [hB] at hF
        have HF := Lib.hid hF
        clear hF hB
        go_wp2_with (go_at_call 35; refine HF.out.mono ?_; rintro e w3 ⟨rfl, rfl⟩)
        refine (sknown_any _).mono ?_
        rintro e w9 ⟨rfl, b9⟩
        go_wp2_with fail
        go_ret
        exact ⟨rfl, SK2.out.bel.trans (b9.mono SK2.out.bel.size)⟩
      | true =>
        rw [hB] at hF
        have HF := Lib.hid hF
        have hok := (sewB_yes hB).2 ⟨0, 0, X.p, X.cap, X.ts, 0⟩ (List.mem_singleton.2 rfl)
        have hts : X.ts.length ≤ 20 := hok.1
        clear hF hB hok
        go_wp2_with (go_at_call 35; refine HF.out.mono ?_; rintro e w3 ⟨rfl, rfl⟩)
        obtain ⟨⟨d1, ns, er⟩, hadd⟩ : ∃ r, d.add 1000 (k + 1) X.ts = r := ⟨_, rfl⟩
        have hA := SK2.out.add (by omega) (by omega) (by omega) (k + 1) (by omega) _ X.ts ((HST.out.reads (by omega)).below HBE.out) (by omega) hadd
        rw [show ((k + 1 : Nat) : Int) = (k : Int) + 1 by omega] at hA
        refine hA.mono ?_
        rintro e w4 ⟨v, rfl, -, k4, -⟩
        have SK4 := Lib.hid (k4.less (S' := fun _ => False) (fun _ h => .inl h))
        clear hA hadd k4 HF HST SK2 HBE hc hc2
        go_wp2_with fail
        go_roundg (N - (k + 1))
        case measure => have := HR.out; omega
        case rel => exact ⟨k + 1, d1, by omega, by omega, by go_num, SK4.out.mono (by omega) (by omega)⟩
    · obtain rfl : k = N := by omega
      clear hlt hkn HR
      have SK0 := Lib.hid SK.out
      obtain ⟨d0, hd0⟩ : ∃ d0, d = d0 := ⟨_, rfl⟩
      go_wp2_with fail
      go_loopg [11] k (fun r v wr => ∃ (j : Nat) (d : Dx), j ≤ k ∧ r + j = k ∧ v = .int .i64 (j : Int) ∧ Sk w wr (fun _ => False) x 1000 2 (16 * k : Nat) (16 * k) d s 0 0 0)
      case atStart => exact ⟨0, _, by omega, by omega, rfl, SK0.out⟩
      case round =>
        clear SK SK0 hd0
        obtain ⟨j, d, hjk, hr, rfl, hk⟩ := hrel
        have SK := Lib.hid hk
        have HR := Lib.hid hr
        clear hk hr
        by_cases hlt : j < k
        · go_wp2_with fail
          rotate_left
          · go_roundg (k - (j + 1))
            case measure => have := HR.out; omega
            case rel => exact ⟨j + 1, d, by omega, by omega, by go_num, SK.out⟩
          · obtain ⟨⟨d1, ns, er⟩, hadd⟩ : ∃ r, d.drop (j + 1) = r := ⟨_, rfl⟩
            have hA := SK.out.drop (by omega) (by omega) (j + 1) (by omega) hadd
            rw [show ((j + 1 : Nat) : Int) = (j : Int) + 1 by omega] at hA
            refine hA.mono ?_
            rintro e w4 ⟨v, rfl, -, k4, -⟩
            have SK4 := Lib.hid (k4.less (S' := fun _ => False) (fun _ h => .inl h))
            clear hA hadd k4
            go_wp2_with fail
            go_roundg (k - (j + 1))
            case measure => have := HR.out; omega
            case rel => exact ⟨j + 1, d1, by omega, by omega, by go_num, SK4.out⟩
        · obtain rfl : j = k := by omega
          clear hlt hjk HR
          have hsz := SK.out.sizes
          have hlt0 : Hid (∀ s ∈ d.sl, s.1 < 65536) := fun s hs => by have := SK.out.kr.facts.1.nlt s hs; omega
          have hsl : d.sl.length ≤ 320 := by have := SK.out.kr.facts.2.1; omega
          go_wp2_with (go_at_call 44; refine hsz.mono ?_; rintro e w5 ⟨rfl, b5⟩)
          have SK2 := Lib.hid (SK.out.quiet b5)
          clear SK hsz b5
          obtain ⟨many, hmany⟩ : ∃ many, d.sl.length = many := ⟨_, rfl⟩
          obtain ⟨wr0, hwr0⟩ : ∃ wr0, wrongX d.all d.sl = wr0 := ⟨_, rfl⟩
          have HMANY := Lib.hid hmany
          have HWR0 := Lib.hid hwr0
          rw [hmany] at hsl
          try rw [hmany]
          try rw [hwr0]
          have HS0 : Hid (Szs d d 0 0 0 0 many) := by have := Szs.start d; rw [hmany] at this; exact this
          clear hmany hwr0
          go_loopg [14, 15, 16] (M + many) (fun r v14 v15 v16 wr => ∃ (lk out i n' i' : Nat) (d' : Dx), r = (M - i) + (many - lk) ∧ v14 = .int .i64 (lk : Int) ∧ v15 = .int .i64 (out : Int) ∧ v16 = .int .i64 (i : Int) ∧ lk ≤ many ∧ i ≤ M + lk ∧ Szs d d' out n' i' lk many ∧ Sk w wr (fun _ => False) x 1000 2 (16 * j : Nat) (16 * j + lk) d' s n' i' 0)
          case atStart => exact ⟨0, 0, 0, 0, 0, d, by omega, rfl, rfl, rfl, Nat.zero_le _, Nat.zero_le _, HS0.out, SK2.out⟩
          case round =>
            clear SK2 HS0
            obtain ⟨lk, out, i, n', i', d', hr, rfl, rfl, rfl, hlk, hil, hsz, hk⟩ := hrel
            have SK := Lib.hid hk
            have HSZ := Lib.hid hsz
            have HR := Lib.hid hr
            clear hk hsz hr
            by_cases hlt : lk < many
            · go_upto_if 100 with (fail)
              go_cut [17] (fun s17 wx => ∃ m : Nat, s17 = .int .i64 (m : Int) ∧ lk + m ≤ many ∧ (i < M ∨ 1 ≤ m) ∧ wr = wx)
              case first =>
                by_cases hiM : i < M
                · obtain ⟨z, hz⟩ : ∃ z, Z[i]? = some z := ⟨_, List.getElem?_eq_getElem (by rw [HM.out]; exact hiM)⟩
                  have hzb := HZB.out z (List.mem_of_getElem? hz)
                  obtain ⟨p', c', hv, -, h0 | ⟨bz, oz, hp, hbz, -, hcz⟩⟩ := (HZ.out.below SK.out.bel)
                  · rw [List.length_map, HM.out] at h0
                    omega
                  · have cz := hcz i (.int .u8 z) (by rw [List.getElem?_map, hz]; rfl)
                    injection hv with e1 e2 e3
                    rw [hp] at e1
                    subst e1
                    clear hcz e2 e3 hz hp
                    obtain ⟨m, hm1, hm2⟩ : ∃ m : Nat, (if (many : Int) - (lk : Int) < (if (100 : Int) < z then 100 else z) then (many : Int) - (lk : Int) else (if (100 : Int) < z then 100 else z)) = (m : Int) ∧ lk + m ≤ many := by
                      refine ⟨(if (many : Int) - (lk : Int) < (if (100 : Int) < z then 100 else z) then (many : Int) - (lk : Int) else (if (100 : Int) < z then 100 else z)).toNat, ?_, ?_⟩ <;> (split <;> split <;> omega)
                    have hmin : ∀ (ts : Array TypeId) (t : TypeId) (W : World), Sem.run Try.prog (Builtin.min_ ts t #[.int .i64 z, .int .i64 100, .int .i64 ((many : Int) - (lk : Int))]) W = .ok (.int .i64 (m : Int)) W := fun ts t W => by
                      rw [← hm1]
                      simp [Builtin.min_, Builtin.min2]
                    clear hm1
                    go_wp2_with fail
                    go_meet
                    exact ⟨m, rfl, hm2, .inl hiM, rfl⟩
                · go_wp2_with fail
                  go_meet
                  exact ⟨1, rfl, by omega, .inr (Nat.le_refl _), rfl⟩
              case rest =>
                obtain ⟨m, rfl, hm, him, rfl⟩ := hcut
                obtain ⟨r, hr⟩ : ∃ r, swGo m d' n' i' 0 0 = r := ⟨_, rfl⟩
                have hlt1 : ∀ s ∈ d'.sl, s.1 < 65536 := fun s hs => by have := SK.out.kr.facts.1.nlt s hs; omega
                obtain ⟨f1, f2, f3, f4⟩ := HSZ.out.step hlt1 m hm hr
                have hst := SK.out.step m (by omega) HSZ.out.n64 (by have := HSZ.out.ilt; rw [HMANY.out] at this; omega) (by decide) hr
                rw [f1, f2] at hst
                have hob : out ≤ many := by have := HSZ.out.al.size; have := HMANY.out; omega
                have HST := Lib.hid hst
                have HS4 := Lib.hid f4
                clear hst f4 hr hlt1
                go_wp2_with (go_at_call 45; refine HST.out.mono ?_; rintro e w6 ⟨rfl, k6, -⟩; have SK6 := Lib.hid (show Sk w w6 (fun _ => False) x 1000 2 (16 * j : Nat) (16 * j + lk + m) r.d s r.n r.i 0 from k6); clear k6)
                refine (swrounds_any SK6.out.sw).mono ?_
                rintro e w7 ⟨rfl, rfl⟩
                go_wp2_with fail
                go_roundg ((M - (i + 1)) + (many - (lk + m)))
                case measure => have := HR.out; omega
                case rel => exact ⟨lk + m, out + r.gn, i + 1, r.n, r.i, r.d, rfl, by go_num, by go_num, by go_num, hm, by omega, HS4.out, SK6.out.mono (Int.le_refl _) (by omega)⟩
            · obtain rfl : lk = many := by omega
              obtain ⟨e1, -, e3, e4, ht⟩ := HSZ.out.end_
              rw [HWR0.out] at e1 e4
              rw [HMANY.out] at e4
              have hsz2 := SK.out.sizes
              rw [e3] at hsz2
              obtain ⟨left, hleft⟩ : ∃ left, d'.sl.length = left := ⟨_, rfl⟩
              rw [hleft] at hsz2 e4
              have HS2 := Lib.hid hsz2
              have HGO := Lib.hid (swGo_end (f := 0) ht 0 0)
              have HN64 := Lib.hid HSZ.out.n64
              have hib : i' ≤ 320 := by have := HSZ.out.ilt; rw [HMANY.out] at this; omega
              clear hsz2 hleft e3 ht HSZ HR hlt
              subst e1
              go_wp2_with (go_at_call 44; refine HS2.out.mono ?_; rintro e w8 ⟨rfl, b8⟩; have SK8 := Lib.hid (SK.out.quiet b8); clear b8)
              refine (SK8.out.steps 1 (by omega) HN64.out (by omega) (by decide) HGO.out rfl rfl rfl).mono ?_
              rintro e w9 ⟨rfl, k9, -⟩
              have SK9 := Lib.hid (show Sk w w9 (fun _ => False) x 1000 2 (16 * j : Nat) (16 * j + lk + 1) d' s 0 0 1 from k9)
              clear k9
              go_wp2_with (first
                | (go_at_call 43; refine (SK9.out.at_ rfl rfl rfl).mono ?_; rintro e w10 ⟨rfl, k10, -⟩)
                | (go_at_call 33; refine (sknown_any _).mono ?_; rintro e w11 ⟨rfl, b11⟩))
              go_ret
              exact ⟨rfl, k10.bel.trans (b11.mono k10.bel.size)⟩
theorem ssizes_walk (q : Option Addr) (cap : Nat) (L : List Ts) (g : Int) (vz : Value) (Z : List Int) (hzb : ∀ z ∈ Z, 0 ≤ z ∧ z ≤ 255) (w : World) (hT : TActs w q L) (hZ : Reads w vz (Z.map (Value.int .u8))) :
    Calls Try.prog 6 #[.slice q L.length cap, .int .u32 g, vz] w fun e w' => e = .returned (.bool true) ∧ Below w.heap.size w w' := by
  have hz2 := hZ
  obtain ⟨pz, cz, rfl, -, -⟩ := hz2
  rw [List.length_map] at hZ ⊢
  by_cases h : L.length ≤ 20 ∧ Z.length ≤ 50
  · exact ssizes_some q cap L g pz cz Z h.1 h.2 hzb w hT hZ
  · exact ssizes_many q L.length cap g pz Z.length cz (by omega) w
end Go.Proofs.Ytfpkeinknhijaaa
