/- QuotaPlays. -/
import Derived.Test.YtnofpbhpnhbbpaaQuoPE
import Derived.Test.YtnofpbhpnhbbpaaOpenQ
namespace Go.Proofs.Ytnofpbhpnhbbpaa
set_option linter.unusedVariables false
open Go.RowKit Go.Maps Go.Sort

section
variable {V w w' : World} {r : Rl} {g b n now M : Nat} {m : List (List UInt8 × Acc)} {q : Option Addr} {cap : Nat} {L : List Alw}
theorem st_any (h : Ps V w r g b n now m M q cap L) (hr : RlOk r) (hl : L.length ≤ 90) (hn : n ≤ 100) (wh k : Int) (h0 : -9223372036854775808 ≤ k) (h9 : k ≤ 9223372036854775807) (t : Nat) (ht9 : t ≤ 18446744073709551615) (s : ByteArray) (hs : s.size ≤ 60) :
    Calls Try.prog 17 #[.pointer (some ⟨g, 0, none⟩), .pointer (some ⟨M, 0, none⟩), .agg #[.int .i64 wh, .int .i64 k, .int .u64 (t : Int), .string s]] w (StP V r M n L.length) := by
  by_cases e0 : wh = 0
  · subst e0
    by_cases hm : mayE t s.data.toList k = 0
    · have := (mayE_ok hm).2.1
      obtain ⟨kn, rfl⟩ : ∃ kn : Nat, k = (kn : Int) := ⟨k.toNat, by omega⟩
      exact st_ask_ok h hr hl hn kn (by omega) t s hs hm
    · exact st_ask_bad h hr hl hn k t s hs hm
  · by_cases e1 : wh = 1
    · subst e1
      by_cases hm : mayE t s.data.toList 0 = 0
      · exact st_left_ok h hr hl hn k t s hs hm
      · exact st_left_bad h hr hl hn k t s hs hm
    · by_cases e2 : wh = 2
      · subst e2
        by_cases hm : mayE t s.data.toList k = 0
        · cases hv : neverB r k
          · exact st_wait_ok h hr hl hn k h9 t s hs hm hv
          · exact st_wait_never h hr hl hn k t s hs hm hv
        · exact st_wait_bad h hr hl hn k t s hs hm
      · exact st_copy h hr hl hn wh k t s hs e0 e1 e2 ht9
theorem Ps.tidied (h : Ps V w r g b n now m M q cap L) (q2 : Qb w' g b n r now (tidyM r.P now m)) (ho : Only (fun i => i = g ∨ i = b) w w') : Ps V w' r g b n now (tidyM r.P now m) M q cap L := by
  obtain ⟨h1, h2⟩ := h.book ho
  exact ⟨q2, h1, h.i.tidy h.qb.apart, h.kb, h.d1, h.d2, h.d3, h.d4, h.v1, h.v2, h.v3, h.nw, h2⟩
/-- What is compared after each call. -/
theorem Ps.list (h : Ps V w r g b n now m M q cap L) (hr : RlOk r) (hn : n ≤ 100) :
    Calls Try.prog 10 #[.pointer (some ⟨g, 0, none⟩)] w fun e w' => ∃ v, e = .returned v ∧ Reads w' v ((clientsL (now / r.P) L).map encStr) ∧ Ps V w' r g b n now (tidyM r.P now m) M q cap L := by
  have hnw := h.nw
  refine (clients_any g b n r now m hr (by omega) (Nat.le_trans h.qb.mp.size (by omega)) w h.qb).mono ?_
  rintro e w' ⟨v, rfl, hv, q2, ho⟩
  rw [show clients r.P now m = clientsL (now / r.P) L from h.i.clients h.qb.apart] at hv
  exact ⟨v, rfl, hv, h.tidied q2 ho⟩
end
set_option maxHeartbeats 8000000 in
set_option maxRecDepth 100000 in
theorem plays_walk (pp cc dd : Int) (l : List Qa) (qq : Option Addr) (cap0 : Nat) (w : World) (hq : QasOf w qq l) (hl : l.length ≤ 140737488355328) (hok : ∀ x ∈ l, QaOk x) :
    Calls Try.prog 5 #[.agg #[.int .u64 pp, .int .i64 cc, .int .i64 dd], .slice qq l.length cap0] w fun e w' => e = .returned (.bool true) ∧ Below w.heap.size w w' := by
  have HQS := Lib.hid hq
  have HOK := Lib.hid hok
  clear hq hok
  have HK := Lib.hid (fun w' : World => known_any w')
  have HV := Lib.hid (fun w' : World => valid_any pp cc dd w')
  have hb0 : Below w.heap.size w (w.alloc (.cells #[.int .u64 pp, .int .i64 cc, .int .i64 dd] 30)) := (Below.refl _ _).alloc (Nat.le_refl _) _
  have hbx := Blk.new w 30 #[.int .u64 pp, .int .i64 cc, .int .i64 dd]
  obtain ⟨W, hW⟩ : ∃ W, w.alloc (.cells #[.int .u64 pp, .int .i64 cc, .int .i64 dd] 30) = W := ⟨_, rfl⟩
  rw [hW] at hb0 hbx
  have hWs : W.heap.size = w.heap.size + 1 := by rw [← hW]; simp
  have HW := Lib.hid hW
  have HWS := Lib.hid hWs
  have HB0 := Lib.hid hb0
  clear hW hWs hb0
  have y0 := hbx.cell 0
  have y1 := hbx.cell 1
  have y2 := hbx.cell 2
  have HBX := Lib.hid hbx
  clear hbx
  by_cases h30 : l.length ≤ 30
  · have i3 : (l.length : Int) ≤ 30 := by omega
    cases hrb : ruleB pp cc dd
    · rw [hrb] at HV
      have HN := Lib.hid (fun w' : World => new_bad pp cc dd hrb w')
      clear hrb
      go_enter Try.func5, Try.ntmps5
      go_wp2_with fail
      rw [HW.out]
      go_wp2_with fail
      refine (HN.out W).mono ?_
      rintro e w1 ⟨rfl, b1⟩
      have HX1 := HBX.out.below b1 HBX.out.lt
      clear y0 y1 y2
      have y0 := HX1.cell 0
      have y1 := HX1.cell 1
      have y2 := HX1.cell 2
      clear HX1
      go_wp2_with fail
      refine (HV.out w1).mono ?_
      rintro e w2 ⟨rfl, b2⟩
      go_wp2_with fail
      refine (HK.out w2).mono ?_
      rintro e w3 ⟨rfl, b3⟩
      go_wp2_with fail
      go_ret
      exact ⟨rfl, ((HB0.out.trans (b1.mono HB0.out.size)).trans (b2.mono (Nat.le_trans HB0.out.size b1.size))).trans (b3.mono (Nat.le_trans HB0.out.size (Nat.le_trans b1.size b2.size)))⟩
    · rw [hrb] at HV
      obtain ⟨r, rfl, rfl, rfl, hr⟩ : ∃ r : Rl, pp = (r.P : Int) ∧ cc = (r.C : Int) ∧ dd = (r.B : Int) ∧ RlOk r := by
        unfold ruleB at hrb
        simp only [Bool.and_eq_true, decide_eq_true_eq] at hrb
        exact ⟨⟨pp.toNat, cc.toNat, dd.toNat⟩, by dsimp only; omega, by dsimp only; omega, by dsimp only; omega, ⟨by dsimp only; omega, by dsimp only; omega, by dsimp only; omega, by dsimp only; omega⟩⟩
      clear hrb
      have HN := Lib.hid (fun W : World => new_ok r hr W)
      go_enter Try.func5, Try.ntmps5
      go_wp2_with fail
      rw [HW.out]
      go_wp2_with fail
      refine (HN.out W).mono ?_
      rintro e w1 ⟨g0, b0, rfl, q1, v1, v2, b1⟩
      have HX1 := HBX.out.below b1 HBX.out.lt
      have HB1 := Lib.hid (HB0.out.trans (b1.mono HB0.out.size))
      have hz1 : w.heap.size + 1 ≤ w1.heap.size := by have := HWS.out; have := b1.size; omega
      have HWW := HWS.out
      clear y0 y1 y2 b1
      have y0 := HX1.cell 0
      have y1 := HX1.cell 1
      have y2 := HX1.cell 2
      have HBX1 := Lib.hid HX1
      have HQ1 := Lib.hid q1
      clear HX1 q1 HBX HN
      go_wp2_with fail
      refine (HV.out w1).mono ?_
      rintro e w2 ⟨rfl, b2⟩
      have hx2 := HBX1.out.below b2 HBX1.out.lt
      have HB2 := Lib.hid (HB1.out.trans (b2.mono HB1.out.size))
      have q2 := HQ1.out.below b2
      have hz2 := b2.size
      clear y0 y1 y2 b2 HV
      have y0 := hx2.cell 0
      have y1 := hx2.cell 1
      have y2 := hx2.cell 2
      clear hx2 HBX1
      have hgl := q2.bk.lt
      have hbl := q2.mp.lt
      obtain ⟨M, hM⟩ : ∃ M, M = w2.heap.size := ⟨_, rfl⟩
      have hbk := Blk.new w2 52 #[.int .u64 (r.P : Int), .int .i64 (r.C : Int), .int .i64 (r.B : Int), .int .u64 0, .slice none 0 0]
      have S0 : Hid (Ps w (w2.alloc (.cells #[.int .u64 (r.P : Int), .int .i64 (r.C : Int), .int .i64 (r.B : Int), .int .u64 0, .slice none 0 0] 52)) r g0 b0 0 0 [] M none 0 []) := by
        refine ⟨q2.below ((Below.refl _ _).alloc (Nat.le_refl _) _), ⟨by rw [hM]; exact hbk, ⟨rfl, .inl ⟨rfl, rfl⟩⟩, by simp; omega, fun e => by simp [Value.ownBlock] at e⟩, BkInv.nil r 0, (fun x hx => by cases hx), by omega, by omega, (fun e => by simp [Value.ownBlock] at e), (fun e => by simp [Value.ownBlock] at e), by omega, by omega, by omega, by omega, HB2.out.alloc HB2.out.size _⟩
      clear HQ1 q2 HB0 HB1 HB2 hbk hgl hbl v1 v2 hz1 hz2 HWW HWS HW
      go_wp2_with fail
      rw [← hM]
      generalize w2.alloc (.cells #[.int .u64 (r.P : Int), .int .i64 (r.C : Int), .int .i64 (r.B : Int), .int .u64 0, .slice none 0 0] 52) = W2 at S0 ⊢
      clear hM y0 y1 y2
      go_loopg [5, 8] l.length (fun p s5 s8 wr => ∃ (i g b n now : Nat) (m : List (List UInt8 × Acc)) (q : Option Addr) (cap : Nat) (L : List Alw), p + i = l.length ∧ s8 = .int .i64 (i : Int) ∧ s5 = .pointer (some ⟨g, 0, none⟩) ∧ Ps w wr r g b n now m M q cap L ∧ n ≤ 2 * i ∧ L.length ≤ i)
      case atStart => exact ⟨0, g0, b0, 0, 0, [], none, 0, [], rfl, rfl, rfl, S0.out, Nat.le_refl _, Nat.le_refl _⟩
      case round => as_aux_lemma =>
        clear S0
        obtain ⟨i, g, b, n, now, m, q, cap, L, hp, rfl, rfl, hs, hn, hL⟩ := hrel
        have HP := Lib.hid hp
        have hil : i ≤ l.length := by omega
        clear hp
        by_cases hlt : i < l.length
        · obtain ⟨x, hx⟩ : ∃ x, l[i]? = some x := ⟨l[i], List.getElem?_eq_getElem hlt⟩
          obtain ⟨blk, off, rfl, hbk, d0, d1, d2, d3⟩ := HQS.out i x hx
          have hok := HOK.out x (List.mem_of_getElem? hx)
          obtain ⟨wh, by', t, s⟩ := x
          dsimp only at d0 d1 d2 d3
          have o1 := bounds_i64 hok.by'
          have o2 := bounds_u64 hok.t
          dsimp only at o1 o2
          clear hok hx
          obtain ⟨tn, rfl⟩ : ∃ tn : Nat, t = (tn : Int) := ⟨t.toNat, by omega⟩
          have e0 := (hs.bel.cell (p := ⟨blk, off + i * 4, none⟩) hbk).trans d0
          have e1 := (hs.bel.cell (p := ⟨blk, off + i * 4 + 1, none⟩) hbk).trans d1
          have e2 := (hs.bel.cell (p := ⟨blk, off + i * 4 + 2, none⟩) hbk).trans d2
          have e3 := (hs.bel.cell (p := ⟨blk, off + i * 4 + 3, none⟩) hbk).trans d3
          have HS := Lib.hid hs
          clear d0 d1 d2 d3 hs
          by_cases h60 : s.size ≤ 60
          · have i6 : (s.size : Int) ≤ 60 := by omega
            have HA := Lib.hid (st_any HS.out hr (by omega) (by omega) wh by' o1.1 o1.2 tn (by omega) s h60)
            go_wp2_with fail
            refine HA.out.mono ?_
            rintro e w3 ⟨g', b', n', now', m', q', cap', L', rfl, hs', hn', hL'⟩
            have HS3 := Lib.hid (fun j : Nat => hs'.quiet (below_drewN (Below.refl w3.heap.size w3) j))
            have HN := Lib.hid (fun (w' : World) (h' : Ps w w' r g' b' n' now' m' M q' cap' L') => now_any g' b' n' r now' m' w' h'.qb)
            have HL := Lib.hid (fun (w' : World) (h' : Ps w w' r g' b' n' now' m' M q' cap' L') => h'.list hr (by omega))
            have HML := Lib.hid (fun (w' : World) (m' : List (List UInt8 × Acc)) (h' : Ps w w' r g' b' n' now' m' M q' cap' L') => mclients_any h'.md hr (by omega) h'.old (by have := h'.nw; omega))
            generalize clientsL (now' / r.P) L' = CL at HL HML
            obtain ⟨c0, c1, c2, c3, c4⟩ := hs'.md.cells
            clear HS HA e0 e1 e2 e3 hs'
            go_wp2_with fail
            go_region_held3 (fun w' => w'.cell? ⟨M, 3, none⟩ = some (.int .u64 (now' : Int))) (go_keep) (first
              | (go_at_call 11; refine (HN.out _ (HS3.out _)).mono ?_; rintro e w4 ⟨rfl, rfl⟩)
              | (go_at_call 10; refine (HL.out _ (HS3.out _)).mono ?_; rintro e w4 ⟨v4, rfl, r4, s4⟩; obtain ⟨k0, k1, k2, k3, k4⟩ := s4.md.cells)
              | (go_at_call 19; refine (HML.out _ _ s4).mono ?_; rintro e w5 ⟨v5, rfl, r5, b5⟩; have s5 := s4.quiet b5; have r6 := r4.below b5; obtain ⟨j0, j1, j2, j3, j4⟩ := s5.md.cells)
              | (go_at_call 18; refine (names_any _ _ _ _ r6 r5).mono ?_; rintro e w6 ⟨rfl, b6⟩; have s6 := s5.quiet b6; obtain ⟨t0, t1, t2, t3, t4⟩ := s6.md.cells))
            all_goals
              have HS6 := Lib.hid s6
              clear s4 s5 s6 r4 r5 r6 b5 b6 k0 k1 k2 k3 k4 j0 j1 j2 j3 j4 t0 t1 t2 t3 t4 HL HML HN HS3 c0 c1 c2 c3 c4
              go_wp2_with fail
              go_roundg (gk - 1)
              case measure => have := HP.out; omega
              case rel => exact ⟨i + 1, g', b', n', now', _, q', cap', L', by have := HP.out; omega, by go_num, rfl, HS6.out, by omega, by omega⟩
          · have i6 : decide ((60 : Int) < (s.size : Int)) = true := decide_eq_true (by omega)
            go_wp2_with fail
            refine (HK.out _).mono ?_
            rintro e w2 ⟨rfl, b2⟩
            go_wp2_with fail
            go_ret
            exact ⟨rfl, HS.out.bel.trans (b2.mono HS.out.bel.size)⟩
        · obtain rfl : i = l.length := by omega
          have HS := Lib.hid hs
          clear hs
          go_wp2_with fail
          refine (HK.out _).mono ?_
          rintro e w2 ⟨rfl, b2⟩
          go_wp2_with fail
          go_ret
          exact ⟨rfl, HS.out.bel.trans (b2.mono HS.out.bel.size)⟩
  · have h30' : decide ((30 : Int) < (l.length : Int)) = true := decide_eq_true (by omega)
    go_enter Try.func5, Try.ntmps5
    go_wp2_with fail
    rw [HW.out]
    go_wp2_with fail
    refine (HK.out W).mono ?_
    rintro e w2 ⟨rfl, b2⟩
    go_wp2_with fail
    go_ret
    exact ⟨rfl, HB0.out.trans (b2.mono HB0.out.size)⟩
end Go.Proofs.Ytnofpbhpnhbbpaa
