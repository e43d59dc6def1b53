/- The document's index: Cut. -/
import Derived.Test.YtfpkeinknhijaaaGreatDixB
import Derived.Test.YtfpkeinknhijaaaGreatRow
namespace Go.Proofs.YtfpkeinknhijaaaGreat
set_option linter.unusedVariables false
open Go.RowKit Go.Maps Go.Sort
attribute [local go_sem ↓] appS_eq

/-- Blocks of before, and new ones. -/
abbrev Nw (w w' : World) (P : Nat → Prop) (g : Nat) : Prop := P g ∨ (w.heap.size ≤ g ∧ g < w'.heap.size)
def CutR (w : World) (P : Nat → Prop) (most : Int) (r : Dx × Bool × Int) (e : Ending) (w' : World) : Prop :=
  ∃ a', e = .returned (.tuple #[dixV most r.1 a', .bool r.2.1, .int .i64 r.2.2]) ∧ Dix w' (Nw w w' P) r.1 a' ∧ Below w.heap.size w w'
abbrev zeroX : Array Value := #[.int .i64 0, .slice none 0 0, .slice none 0 0, .slice none 0 0]
/-- A whole index is stored. -/
def putX (w : World) (R : Nat) (most : Int) (d : Dx) (a : Dp) : World := (((w.setCell ⟨R, 0, none⟩ (.int .i64 most)).setCell ⟨R, 1, none⟩ (.slice a.p d.nm.length a.c)).setCell ⟨R, 2, none⟩ (.slice a.pA d.all.length a.cA)).setCell ⟨R, 3, none⟩ (.slice a.pS d.sl.length a.cS)
theorem putX_blk {w : World} {R : Nat} {c0 c1 c2 c3 : Value} (h : Blk w R 35 #[c0, c1, c2, c3]) (most : Int) (d : Dx) (a : Dp) : Blk (putX w R most d a) R 35 (dixCs most d a) := by
  have := Blk.set_ (Blk.set_ (Blk.set_ (Blk.set_ h 0 (.int .i64 most)) 1 (.slice a.p d.nm.length a.c)) 2 (.slice a.pA d.all.length a.cA)) 3 (.slice a.pS d.sl.length a.cS)
  simpa [putX] using this
theorem putX_only {w : World} {R : Nat} (most : Int) (d : Dx) (a : Dp) : Only (fun g => g = R) w (putX w R most d a) := ((((Only.refl (fun g => g = R) w).setCell1 (.inl rfl) 0 _).setCell1 (.inl rfl) 1 _).setCell1 (.inl rfl) 2 _).setCell1 (.inl rfl) 3 _
set_option maxHeartbeats 1000000 in
theorem xnumber_any (t : Int) (w : World) : Calls Tryz.prog 34 #[.int .i64 t] w fun e w' => e = .returned (.bool (numB t)) ∧ w = w' := by
  by_cases h0 : 0 ≤ t
  · by_cases h1 : t < 65536
    · have e : numB t = true := by unfold numB; simp [h0, h1]
      rw [e]
      go_enter Tryz.func34, Tryz.ntmps34
      go_wp2_with fail
      go_ret
      exact ⟨by simp, rfl⟩
    · have e : numB t = false := by unfold numB; simp [h0, h1]
      rw [e]
      go_enter Tryz.func34, Tryz.ntmps34
      go_wp2_with fail
      go_ret
      exact ⟨by simp, rfl⟩
  · have e : numB t = false := by unfold numB; simp [h0]
    rw [e]
    go_enter Tryz.func34, Tryz.ntmps34
    go_wp2_with fail
    go_ret
    exact ⟨by simp, rfl⟩
/-- What a slot at a place is: the k-th of its number. -/
theorem ofX_at : ∀ {S : List (Nat × Nat)} {at_ : Nat} {s : Nat × Nat}, S[at_]? = some s → (ofX S s.1)[(ofX (S.take at_) s.1).length]? = some s.2 ∧ cutL s.1 S (ofX (S.take at_) s.1).length = S.take at_ ++ S.drop (at_ + 1)
  | [], at_, s, h => by simp at h
  | x :: r, 0, s, h => by
    simp only [List.getElem?_cons_zero, Option.some.injEq] at h
    subst h
    refine ⟨?_, ?_⟩
    · rw [ofX_cons, if_pos rfl]
      rfl
    · show cutL x.1 (x :: r) 0 = r
      rw [cutL, if_pos rfl]
  | x :: r, at_ + 1, s, h => by
    rw [List.getElem?_cons_succ] at h
    obtain ⟨h1, h2⟩ := ofX_at h
    rw [List.take_succ_cons, ofX_cons, ofX_cons]
    by_cases hx : x.1 = s.1
    · rw [if_pos hx, if_pos hx]
      refine ⟨by rw [List.length_cons, List.getElem?_cons_succ]; exact h1, ?_⟩
      rw [List.length_cons, cutL, if_pos hx, h2]
      rfl
    · rw [if_neg hx, if_neg hx]
      refine ⟨h1, ?_⟩
      rw [cutL.eq_def]
      simp only
      rw [if_neg hx, h2]
      rfl
theorem slotInfo : (Tryz.prog.info? 87).map (fun i => (i.zero, i.size, i.bytes)) = some (some (.agg #[.int .i64 0, .int .u64 0]), 2, 16) := by kernel_rfl
theorem sl_one : ∀ (S : List (Nat × Nat)), ∀ u ∈ slCs S, u.oneCell' = true
  | [], u, h => by cases h
  | s :: r, u, h => by
    rw [slCs] at h
    rcases List.mem_cons.1 h with h | h
    · rw [h]; rfl
    · rcases List.mem_cons.1 h with h | h
      · rw [h]; rfl
      · exact sl_one r u h
/-- A part of a row that is read. -/
theorem RowS.lies {w : World} {P : Nat → Prop} {g cap : Nat} {S : List (Nat × Nat)} (h : RowS w P (some ⟨g, 0, none⟩) S.length cap (slCs S)) (a n cc : Nat) (han : a + n ≤ S.length) (h0 : 0 < S.length) : Lies w 2 (.slice (some ⟨g, a * 2, none⟩) n cc) n (slCs ((S.drop a).take n)) := by
  obtain ⟨g', hp, hg, -, -, hc⟩ := h.at_ h0
  injection hp with hp
  injection hp with hp
  subst hp
  refine ⟨_, _, rfl, by rw [sl_len, List.length_take, List.length_drop]; congr 1; omega, .inr ⟨_, rfl, fun j u hj => ?_⟩⟩
  have hS : slCs S = slCs (S.take a) ++ (slCs ((S.drop a).take n) ++ slCs ((S.drop a).drop n)) := by rw [← sl_app, ← sl_app, List.take_append_drop, List.take_append_drop]
  rw [addr_at]
  refine hc (a * 2 + j) u ?_
  have hl : (slCs (S.take a)).length = a * 2 := by rw [sl_len, List.length_take, Nat.min_eq_left (by omega)]
  rw [hS, List.getElem?_append_right (by omega), hl, Nat.add_sub_cancel_left, List.getElem?_append_left (by exact (List.getElem?_eq_some_iff.1 hj).1)]
  exact hj
theorem cut_none {d : Dx} {n i : Int} (hn : numB n = true) (h : i < 0 ∨ (ofX d.sl n.toNat).length ≤ i.toNat) : d.cut n i = (d, false, 9) := by
  unfold Dx.cut
  rw [if_pos hn]
  by_cases h0 : 0 ≤ i
  · rw [if_pos h0, List.getElem?_eq_none (by omega)]
  · rw [if_neg h0]
set_option maxHeartbeats 8000000 in
set_option maxRecDepth 100000 in
theorem xcut_any {w : World} {P : Nat → Prop} {d : Dx} {a : Dp} (h : Dix w P d a) (hP : ∀ g, P g → g < w.heap.size) (most : Int) (hl : d.sl.length ≤ 1000000) (hl2 : d.all.length ≤ 1000000) (n i : Int) :
    Calls Tryz.prog 13 #[dixV most d a, .int .i64 n, .int .i64 i] w (CutR w P most (d.cut n i)) := by
  have HBW : Hid (Below w.heap.size w ((w.alloc (.cells (dixCs most d a) 35)).alloc (.cells zeroX 35))) := ((Below.refl _ _).alloc (Nat.le_refl _) _).alloc (by simp) _
  have hbx := Blk.alloc (Blk.new w 35 (dixCs most d a)) (.cells zeroX 35)
  have hbr := Blk.new (w.alloc (.cells (dixCs most d a) 35)) 35 zeroX
  rw [show (w.alloc (.cells (dixCs most d a) 35)).heap.size = w.heap.size + 1 by simp] at hbr
  have H := Lib.hid (h.below HBW.out)
  have HBR := Lib.hid hbr
  have HBX := Lib.hid hbx
  have HPP := Lib.hid hP
  obtain ⟨N, hN⟩ : ∃ N, d.sl.length = N := ⟨_, rfl⟩
  have HN := Lib.hid hN
  rw [hN] at hl
  have HL2 := Lib.hid hl2
  obtain ⟨res, hres⟩ : ∃ res, d.cut n i = res := ⟨_, rfl⟩
  rw [hres]
  have HRES := Lib.hid hres
  clear h hbx hbr hP hl2 hN hres
  go_enter Tryz.func13, Tryz.ntmps13
  go_wp2_with fail
  generalize (w.alloc (.cells (dixCs most d a) 35)).alloc (.cells zeroX 35) = W at *
  refine (xnumber_any n W).mono ?_
  rintro e w1 ⟨rfl, rfl⟩
  have d0 := Blk.cell HBX.out 0
  have d1 := Blk.cell HBX.out 1
  have d2 := Blk.cell HBX.out 2
  have d3 := Blk.cell HBX.out 3
  have e0 := Blk.cell HBR.out 0
  have e1 := Blk.cell HBR.out 1
  have e2 := Blk.cell HBR.out 2
  have e3 := Blk.cell HBR.out 3
  have f0 := Blk.frozen HBR.out 0
  have f1 := Blk.frozen HBR.out 1
  have f2 := Blk.frozen HBR.out 2
  have f3 := Blk.frozen HBR.out 3
  simp only [List.getElem?_toArray, List.getElem?_cons_zero, List.getElem?_cons_succ] at d0 d1 d2 d3 e0 e1 e2 e3
  cases hnb : numB n with
  | false =>
    have HC : Hid (d.cut n i = (d, false, 2)) := by unfold Hid Dx.cut; rw [if_neg (by rw [hnb]; decide)]
    go_wp2_with fail
    have hz := putX_blk HBR.out most d a
    have z0 := Blk.cell hz 0
    have z1 := Blk.cell hz 1
    have z2 := Blk.cell hz 2
    have z3 := Blk.cell hz 3
    have ho := putX_only (w := W) (R := w.heap.size + 1) most d a
    simp only [putX, List.getElem?_toArray, List.getElem?_cons_zero, List.getElem?_cons_succ] at z0 z1 z2 z3 ho
    exact bodyPost_ret (v := .tuple #[dixV most d a, .bool false, .int .i64 2]) (by simp [results, Tryz.results13, go_sem, z0, z1, z2, z3]) rfl (by rw [← HRES.out, HC.out]; exact ⟨a, rfl, (H.out.only ho (fun g hg he => by have := HPP.out g hg; omega)).more (fun g hg => .inl hg), HBW.out.trans (ho.below (fun g hg => by omega) HBW.out.size)⟩)
  | true =>
    obtain ⟨m, rfl⟩ : ∃ m : Nat, n = m := ⟨n.toNat, by unfold numB at hnb; simp at hnb; omega⟩
    have HNB := Lib.hid hnb
    have hm : m < 65536 := by unfold numB at hnb; simp at hnb; omega
    clear hnb d0 d1 d2 d3 e0 e1 e2 e3 f0 f1 f2 f3
    go_wp2_with fail
    go_loopg [9, 10] N (fun r s9 s10 wr => ∃ j : Nat, r + j = N ∧ s10 = .int .i64 (j : Int) ∧ s9 = .int .i64 ((ofX (d.sl.take j) m).length : Int) ∧ Hid (i < 0 ∨ ((ofX (d.sl.take j) m).length : Int) ≤ i) ∧ Below W.heap.size W wr)
    case atStart => exact ⟨0, by omega, rfl, rfl, (by show i < 0 ∨ (0 : Int) ≤ i; omega), Below.refl _ _⟩
    case round =>
      obtain ⟨j, hr, rfl, rfl, HI, hb⟩ := hrel
      have HR := Lib.hid hr
      have BR := Lib.hid hb
      have hjN : j ≤ N := by omega
      have hbx := Blk.below HBX.out hb (Blk.lt HBX.out)
      have hbr := Blk.below HBR.out hb (Blk.lt HBR.out)
      have HBR1 := Lib.hid hbr
      have d0 := Blk.cell hbx 0
      have d1 := Blk.cell hbx 1
      have d2 := Blk.cell hbx 2
      have d3 := Blk.cell hbx 3
      have e0 := Blk.cell hbr 0
      have e1 := Blk.cell hbr 1
      have e2 := Blk.cell hbr 2
      have e3 := Blk.cell hbr 3
      have f0 := Blk.frozen hbr 0
      have f1 := Blk.frozen hbr 1
      have f2 := Blk.frozen hbr 2
      have f3 := Blk.frozen hbr 3
      simp only [List.getElem?_toArray, List.getElem?_cons_zero, List.getElem?_cons_succ] at d0 d1 d2 d3 e0 e1 e2 e3
      have hwl : (ofX (d.sl.take j) m).length ≤ j := by
        refine Nat.le_trans (ofX_len _ _) ?_
        rw [List.length_take]
        omega
      clear hr hb hbx hbr
      by_cases hlt : j < N
      · obtain ⟨x, hx⟩ : ∃ x, d.sl[j]? = some x := ⟨_, List.getElem?_eq_getElem (by rw [HN.out]; exact hlt)⟩
        obtain ⟨g, hp, hg, -, hcap, hcell⟩ := (H.out.below BR.out).slots.at_ (by rw [HN.out]; omega)
        have HGS := Lib.hid hg
        rw [HN.out] at hcap
        have HBX1 := Lib.hid (Blk.below HBX.out BR.out (Blk.lt HBX.out))
        obtain ⟨g0, g1⟩ := sl_get hx
        have n0 := hcell _ _ g0
        have n1 := hcell _ _ g1
        have HTK : Hid (d.sl.take (j + 1) = d.sl.take j ++ [x]) := by unfold Hid; rw [List.take_add_one, hx]; rfl
        have HAT := Lib.hid (ofX_at hx)
        rw [HN.out, hp] at d3
        have HP3 := Lib.hid hp
        obtain ⟨x1, x2⟩ := x
        simp only at n0 n1 HAT
        clear hcell g0 g1 hx hg hp
        by_cases hxm : x1 = m
        · subst hxm
          have HOF : Hid ((ofX (d.sl.take (j + 1)) x1).length = (ofX (d.sl.take j) x1).length + 1) := by unfold Hid; rw [HTK.out, ofX_app, ofX_cons, if_pos rfl, List.length_append]; rfl
          generalize (ofX (d.sl.take j) x1).length = kk at *
          by_cases hki : (kk : Int) = i
          · subst hki
            have hF := xfind_any (H.out.below BR.out.drew) most HL2.out x2
            unfold dixV dixCs at hF
            rw [HN.out, HP3.out] at hF
            have HF := Lib.hid hF
            have hfl := findE_live d.all x2
            have HCUT := Lib.hid (cut_at hm HAT.out.1)
            generalize findE d.all x2 = fi at *
            clear hF
            have hgs : g < wr.drew.heap.size := HGS.out
            clear e0 e1 e2 e3 f0 f1 f2 f3
            go_wp2_with fail
            go_still_tail 7, (by kernel_rfl)
            change wpList _ _ _ _ _ wr.drew
            clear d0 d1 d2 d3 n0 n1
            rcases hfl with ⟨hl1, hf1⟩ | ⟨hl1, hf1⟩
            · rw [if_pos hl1] at HCUT
              have HC := HCUT
              clear HAT HTK HOF
              go_wp2_with (go_at_call 43; refine HF.out.mono ?_; rintro e w5 ⟨rfl, b5⟩; have BR5 : Hid (Below W.heap.size W w5) := BR.out.drew.trans (b5.mono BR.out.drew.size); have hbx5 := Blk.below HBX.out BR5.out (Blk.lt HBX.out); have hbr5 := Blk.below HBR.out BR5.out (Blk.lt HBR.out); have d0 := Blk.cell hbx5 0; have d1 := Blk.cell hbx5 1; have d2 := Blk.cell hbx5 2; have d3 := Blk.cell hbx5 3; have f4 := Blk.frozen hbx5 3; have e0 := Blk.cell hbr5 0; have e1 := Blk.cell hbr5 1; have e2 := Blk.cell hbr5 2; have e3 := Blk.cell hbr5 3; have f0 := Blk.frozen hbr5 0; have f1 := Blk.frozen hbr5 1; have f2 := Blk.frozen hbr5 2; have f3 := Blk.frozen hbr5 3; simp only [List.getElem?_toArray, List.getElem?_cons_zero, List.getElem?_cons_succ] at d0 d1 d2 d3 e0 e1 e2 e3; have HBX5 := Lib.hid hbx5; have HBR5 := Lib.hid hbr5; clear hbx5 hbr5 b5)
              have HBW5 := Lib.hid (HBW.out.trans (BR5.out.mono HBW.out.size))
              have H5 := Lib.hid (H.out.below BR5.out)
              have hz := putX_blk HBR5.out most d a
              have z0 := Blk.cell hz 0
              have z1 := Blk.cell hz 1
              have z2 := Blk.cell hz 2
              have z3 := Blk.cell hz 3
              have ho := putX_only (w := w5) (R := w.heap.size + 1) most d a
              simp only [putX, List.getElem?_toArray, List.getElem?_cons_zero, List.getElem?_cons_succ] at z0 z1 z2 z3 ho
              exact bodyPost_ret (v := .tuple #[dixV most d a, .bool false, .int .i64 0]) (by simp [results, Tryz.results13, go_sem, z0, z1, z2, z3]) rfl (by rw [← HRES.out, HC.out]; exact ⟨a, rfl, (H5.out.only ho (fun g hg he => by have := HPP.out g hg; omega)).more (fun g hg => .inl hg), HBW5.out.trans (ho.below (fun g hg => by omega) HBW5.out.size)⟩)
            · rw [if_neg (by rw [hl1]; decide), HAT.out.2] at HCUT
              have HC := HCUT
              clear HAT HTK HOF
              go_wp2_with (go_at_call 43; refine HF.out.mono ?_; rintro e w5 ⟨rfl, b5⟩; have BR5 : Hid (Below W.heap.size W w5) := BR.out.drew.trans (b5.mono BR.out.drew.size); have hbx5 := Blk.below HBX.out BR5.out (Blk.lt HBX.out); have hbr5 := Blk.below HBR.out BR5.out (Blk.lt HBR.out); have d0 := Blk.cell hbx5 0; have d1 := Blk.cell hbx5 1; have d2 := Blk.cell hbx5 2; have d3 := Blk.cell hbx5 3; have f4 := Blk.frozen hbx5 3; have e0 := Blk.cell hbr5 0; have e1 := Blk.cell hbr5 1; have e2 := Blk.cell hbr5 2; have e3 := Blk.cell hbr5 3; have f0 := Blk.frozen hbr5 0; have f1 := Blk.frozen hbr5 1; have f2 := Blk.frozen hbr5 2; have f3 := Blk.frozen hbr5 3; simp only [List.getElem?_toArray, List.getElem?_cons_zero, List.getElem?_cons_succ] at d0 d1 d2 d3 e0 e1 e2 e3; have HBX5 := Lib.hid hbx5; have HBR5 := Lib.hid hbr5; clear hbx5 hbr5 b5)
              rw [HN.out, HP3.out] at d3
              have HR5 := Lib.hid ((H.out.below BR5.out.drew).slots)
              have h0N : 0 < d.sl.length := by rw [HN.out]; omega
              have b1 : (j : Int) ≤ (a.cS : Int) := by omega
              have b2 : (N : Int) ≤ (a.cS : Int) := by omega
              have b3 : (j : Int) + 1 ≤ (N : Int) := by omega
              have b5 : (j : Int) + 1 ≤ (a.cS : Int) := by omega
              have HL1 : Hid (Lies w5.drew 2 (.slice (some ⟨g, 0, none⟩) j a.cS) j (slCs (d.sl.take j))) := by
                have h := HR5.out
                rw [HP3.out] at h
                have := RowS.lies h 0 j a.cS (by rw [HN.out]; omega) h0N
                rw [Nat.zero_mul, List.drop_zero] at this
                exact this
              have HL2 : Hid (∀ w', Below w5.drew.heap.size w5.drew w' → Lies w' 2 (.slice (some ⟨g, (j + 1) * 2, none⟩) (N - (j + 1)) (a.cS - (j + 1))) (N - (j + 1)) (slCs (d.sl.drop (j + 1)))) := fun w' hb => by
                have h := HR5.out.below hb
                rw [HP3.out] at h
                have := RowS.lies h (j + 1) (N - (j + 1)) (a.cS - (j + 1)) (by rw [HN.out]; omega) h0N
                rw [List.take_of_length_le (by rw [List.length_drop, HN.out]; exact Nat.le_refl _)] at this
                exact this
              obtain ⟨i0, hi0, hz0, hz1, hz2⟩ := info_parts slotInfo
              clear HR5 h0N
              have HXL : Hid (w.heap.size < w5.drew.heap.size) := HBX5.out.lt
              by_cases hc1 : a.cS = j + 1
              · have hNj : N - (j + 1) = 0 := by omega
                have hNe : N = j + 1 := by omega
                have HL2b : Hid (∀ w', Lies w' 2 (.slice (some ⟨g, 0, none⟩) 0 0) (N - (j + 1)) (slCs (d.sl.drop (j + 1)))) := fun w' => by
                  have e : d.sl.drop (j + 1) = [] := List.drop_eq_nil_of_le (by rw [HN.out]; omega)
                  rw [hNj, e]
                  exact ⟨_, _, rfl, rfl, .inl rfl⟩
                rw [hc1, hNe] at d3
                rw [hc1] at HL1 b1 b2 b5
                clear hcap
                obtain ⟨v6, w6, hrun, o6, g6, hv6⟩ := run_append_lying (P := Tryz.prog) w5.drew w5.drew.heap.size 33 33 87 i0 (.agg #[.int .i64 0, .int .u64 0]) 2 16 Tryz.underlying33 hi0 hz0 hz1 hz2 rfl (by decide) (.slice none 0 0) 0 [] (World.ownsRow_nil _ _ _ _) (.slice (some ⟨g, 0, none⟩) j (j + 1)) j (slCs (d.sl.take j)) HL1.out (sl_one _) (by unfold maxLen; omega) (by omega) (Nat.le_refl _)
                rw [Nat.zero_add, List.nil_append] at o6
                obtain ⟨p6, k6, rfl⟩ := owns_form o6
                have g6' : w5.drew.grownBy w6 none := g6
                have hb6 : Below w5.drew.heap.size w5.drew w6 := (Below.refl _ _).grown g6' (Nat.le_refl _) (fun j hj => by cases hj)
                obtain ⟨v7, w7, hrun2, o7, g7, hv7⟩ := run_append_lying (P := Tryz.prog) w6 w5.drew.heap.size 33 33 87 i0 (.agg #[.int .i64 0, .int .u64 0]) 2 16 Tryz.underlying33 hi0 hz0 hz1 hz2 rfl (by decide) (.slice p6 j k6) j (slCs (d.sl.take j)) o6 (.slice (some ⟨g, 0, none⟩) 0 0) (N - (j + 1)) (slCs (d.sl.drop (j + 1))) (HL2b.out w6) (sl_one _) (by unfold maxLen; omega) (by omega) hb6.size
                obtain ⟨p7, k7, rfl⟩ := owns_form o7
                have hb7 : Below w5.drew.heap.size w5.drew w7 := hb6.grown g7 hb6.size (fun j hj => (o6.lt j hj).1)
                have hc5 : w5.drew.cell? ⟨w.heap.size, 3, none⟩ = some (.slice (some ⟨g, 0, none⟩) (j + 1) (j + 1)) := d3
                have hc6 : w6.cell? ⟨w.heap.size, 3, none⟩ = some (.slice (some ⟨g, 0, none⟩) (j + 1) (j + 1)) := (hb6.cell (p := ⟨w.heap.size, 3, none⟩) HXL.out).trans d3
                have hc7 : w7.cell? ⟨w.heap.size, 3, none⟩ = some (.slice (some ⟨g, 0, none⟩) (j + 1) (j + 1)) := (hb7.cell (p := ⟨w.heap.size, 3, none⟩) HXL.out).trans d3
                have hf7 := (hb7.frozen (p := ⟨w.heap.size, 3, none⟩) HXL.out).trans f4
                have O7 := Lib.hid o7
                have HB7 := Lib.hid hb7
                rw [appS_eq] at hrun hrun2
                clear hNj hNe hc1 d0 d1 d2 e0 e1 e2 e3 f0 f1 f2 f3 hl1 hf1 hgs hwl hm o6 o7 g6 g6' g7 hv6 hv7 hb6 hb7 hi0 hz0 hz1 hz2
                go_region
                have hXR : w.heap.size + 1 < w5.drew.heap.size := HBR5.out.lt
                have hbx7 := Blk.below (w := w5.drew) HBX5.out HB7.out HXL.out
                have hbr7 := Blk.below (w := w5.drew) HBR5.out HB7.out hXR
                have hx8 := Blk.set_ hbx7 3 (.slice p7 (j + (N - (j + 1))) k7)
                have o8 : Only (fun g => g = w.heap.size) w7 (w7.setCell ⟨w.heap.size, 3, none⟩ (.slice p7 (j + (N - (j + 1))) k7)) := (Only.refl (fun g => g = w.heap.size) w7).setCell1 (.inl rfl) 3 _
                have hbr8 := Blk.only hbr7 o8 (by omega)
                have HNL : Hid ((d.sl.take j ++ d.sl.drop (j + 1)).length = j + (N - (j + 1))) := by unfold Hid; rw [List.length_append, List.length_take, List.length_drop, HN.out, Nat.min_eq_left (by omega)]
                have HD7 : Hid (Dix w7 (fun g => P g ∨ (w5.drew.heap.size ≤ g ∧ g < w7.heap.size)) ⟨d.nm, d.all, d.sl.take j ++ d.sl.drop (j + 1)⟩ ⟨a.p, a.c, a.pA, a.cA, p7, k7, a.C⟩) := by
                  have h := ((H.out.below BR5.out.drew).below HB7.out).more (P' := fun g => P g ∨ (w5.drew.heap.size ≤ g ∧ g < w7.heap.size)) (fun g hg => .inl hg)
                  refine ⟨h.names, h.namesP, h.all, ?_, h.len, h.sub⟩
                  show RowS w7 _ p7 (d.sl.take j ++ d.sl.drop (j + 1)).length k7 (slCs (d.sl.take j ++ d.sl.drop (j + 1)))
                  rw [HNL.out, sl_app]
                  exact RowS.of_own O7.out (by decide) (fun g hg => .inr (O7.out.lt g hg))
                have HB8 : Hid (Below w.heap.size w w7) := (HBW.out.trans (BR5.out.drew.mono HBW.out.size)).trans (HB7.out.mono (HBW.out.trans (BR5.out.drew.mono HBW.out.size)).size)
                have O8 := Lib.hid o8
                have HBR8 := Lib.hid hbr8
                have d0 := Blk.cell hx8 0
                have d1 := Blk.cell hx8 1
                have d2 := Blk.cell hx8 2
                have d3 := Blk.cell hx8 3
                have e0 := Blk.cell hbr8 0
                have e1 := Blk.cell hbr8 1
                have e2 := Blk.cell hbr8 2
                have e3 := Blk.cell hbr8 3
                have f0 := Blk.frozen hbr8 0
                have f1 := Blk.frozen hbr8 1
                have f2 := Blk.frozen hbr8 2
                have f3 := Blk.frozen hbr8 3
                simp only [List.setIfInBounds_toArray, List.set_cons_zero, List.set_cons_succ, List.getElem?_toArray, List.getElem?_cons_zero, List.getElem?_cons_succ] at d0 d1 d2 d3 e0 e1 e2 e3
                have HXR := Lib.hid hXR
                clear hbx7 hbr7 hx8 o8 hbr8 hXR hc5 hc6 hc7 hf7 hrun hrun2
                generalize w7.setCell ⟨w.heap.size, 3, none⟩ (.slice p7 (j + (N - (j + 1))) k7) = W8 at *
                go_wp2_with fail
                have hz := putX_blk HBR8.out most ⟨d.nm, d.all, d.sl.take j ++ d.sl.drop (j + 1)⟩ ⟨a.p, a.c, a.pA, a.cA, p7, k7, a.C⟩
                have z0 := Blk.cell hz 0
                have z1 := Blk.cell hz 1
                have z2 := Blk.cell hz 2
                have z3 := Blk.cell hz 3
                have ho := putX_only (w := W8) (R := w.heap.size + 1) most ⟨d.nm, d.all, d.sl.take j ++ d.sl.drop (j + 1)⟩ ⟨a.p, a.c, a.pA, a.cA, p7, k7, a.C⟩
                have hN := HNL.out
                simp only [putX, List.getElem?_toArray, List.getElem?_cons_zero, List.getElem?_cons_succ] at z0 z1 z2 z3 ho
                rw [hN] at z0 z1 z2 z3 ho
                have o9 := (O8.out.more (S' := fun g => g = w.heap.size ∨ g = w.heap.size + 1) (fun g h => .inl (.inl h))).trans ho (fun g h => .inl (.inr h))
                exact bodyPost_ret (v := .tuple #[dixV most ⟨d.nm, d.all, d.sl.take j ++ d.sl.drop (j + 1)⟩ ⟨a.p, a.c, a.pA, a.cA, p7, k7, a.C⟩, .bool true, .int .i64 0]) (by simp [results, Tryz.results13, go_sem, z0, z1, z2, z3, hN]) rfl (by
                  rw [← HRES.out, HC.out]
                  have hs := HB8.out.size
                  have hs2 := HB7.out.size
                  have hs3 := HXR.out
                  have hs4 := o9.size
                  refine ⟨_, rfl, (HD7.out.only o9 (fun g hg he => ?_)).more (fun g hg => ?_), HB8.out.trans (o9.below (fun g hg => by omega) hs)⟩
                  · rcases hg with hg | hg
                    · have := HPP.out g hg; omega
                    · omega
                  · rcases hg with hg | hg
                    · exact .inl hg
                    · exact .inr ⟨by omega, by omega⟩)
              · have b6 : ¬ (a.cS : Int) = (j : Int) + 1 := by omega
                have HX2 := Lib.hid (sl_one (d.sl.drop (j + 1)))
                obtain ⟨v6, w6, hrun, o6, g6, hv6⟩ := run_append_lying (P := Tryz.prog) w5.drew w5.drew.heap.size 33 33 87 i0 (.agg #[.int .i64 0, .int .u64 0]) 2 16 Tryz.underlying33 hi0 hz0 hz1 hz2 rfl (by decide) (.slice none 0 0) 0 [] (World.ownsRow_nil _ _ _ _) (.slice (some ⟨g, 0, none⟩) j a.cS) j (slCs (d.sl.take j)) HL1.out (sl_one _) (by unfold maxLen; omega) (by omega) (Nat.le_refl _)
                rw [Nat.zero_add, List.nil_append] at o6
                obtain ⟨p6, k6, rfl⟩ := owns_form o6
                have g6' : w5.drew.grownBy w6 none := g6
                have hb6 : Below w5.drew.heap.size w5.drew w6 := (Below.refl _ _).grown g6' (Nat.le_refl _) (fun j hj => by cases hj)
                obtain ⟨v7, w7, hrun2, o7, g7, hv7⟩ := run_append_lying (P := Tryz.prog) w6 w5.drew.heap.size 33 33 87 i0 (.agg #[.int .i64 0, .int .u64 0]) 2 16 Tryz.underlying33 hi0 hz0 hz1 hz2 rfl (by decide) (.slice p6 j k6) j (slCs (d.sl.take j)) o6 (.slice (some ⟨g, (j + 1) * 2, none⟩) (N - (j + 1)) (a.cS - (j + 1))) (N - (j + 1)) (slCs (d.sl.drop (j + 1))) (HL2.out w6 hb6) (sl_one _) (by unfold maxLen; omega) (by omega) hb6.size
                obtain ⟨p7, k7, rfl⟩ := owns_form o7
                have hb7 : Below w5.drew.heap.size w5.drew w7 := hb6.grown g7 hb6.size (fun j hj => (o6.lt j hj).1)
                have hc5 : w5.drew.cell? ⟨w.heap.size, 3, none⟩ = some (.slice (some ⟨g, 0, none⟩) N a.cS) := d3
                have hc6 : w6.cell? ⟨w.heap.size, 3, none⟩ = some (.slice (some ⟨g, 0, none⟩) N a.cS) := (hb6.cell (p := ⟨w.heap.size, 3, none⟩) HXL.out).trans d3
                have hc7 : w7.cell? ⟨w.heap.size, 3, none⟩ = some (.slice (some ⟨g, 0, none⟩) N a.cS) := (hb7.cell (p := ⟨w.heap.size, 3, none⟩) HXL.out).trans d3
                have hf7 := (hb7.frozen (p := ⟨w.heap.size, 3, none⟩) HXL.out).trans f4
                have O7 := Lib.hid o7
                have HB7 := Lib.hid hb7
                rw [appS_eq] at hrun hrun2
                clear d0 d1 d2 e0 e1 e2 e3 f0 f1 f2 f3 hl1 hf1 hgs hwl hm o6 o7 g6 g6' g7 hv6 hv7 hb6 hb7 hi0 hz0 hz1 hz2
                go_region
                have hXR : w.heap.size + 1 < w5.drew.heap.size := HBR5.out.lt
                have hbx7 := Blk.below (w := w5.drew) HBX5.out HB7.out HXL.out
                have hbr7 := Blk.below (w := w5.drew) HBR5.out HB7.out hXR
                have hx8 := Blk.set_ hbx7 3 (.slice p7 (j + (N - (j + 1))) k7)
                have o8 : Only (fun g => g = w.heap.size) w7 (w7.setCell ⟨w.heap.size, 3, none⟩ (.slice p7 (j + (N - (j + 1))) k7)) := (Only.refl (fun g => g = w.heap.size) w7).setCell1 (.inl rfl) 3 _
                have hbr8 := Blk.only hbr7 o8 (by omega)
                have HNL : Hid ((d.sl.take j ++ d.sl.drop (j + 1)).length = j + (N - (j + 1))) := by unfold Hid; rw [List.length_append, List.length_take, List.length_drop, HN.out, Nat.min_eq_left (by omega)]
                have HD7 : Hid (Dix w7 (fun g => P g ∨ (w5.drew.heap.size ≤ g ∧ g < w7.heap.size)) ⟨d.nm, d.all, d.sl.take j ++ d.sl.drop (j + 1)⟩ ⟨a.p, a.c, a.pA, a.cA, p7, k7, a.C⟩) := by
                  have h := ((H.out.below BR5.out.drew).below HB7.out).more (P' := fun g => P g ∨ (w5.drew.heap.size ≤ g ∧ g < w7.heap.size)) (fun g hg => .inl hg)
                  refine ⟨h.names, h.namesP, h.all, ?_, h.len, h.sub⟩
                  show RowS w7 _ p7 (d.sl.take j ++ d.sl.drop (j + 1)).length k7 (slCs (d.sl.take j ++ d.sl.drop (j + 1)))
                  rw [HNL.out, sl_app]
                  exact RowS.of_own O7.out (by decide) (fun g hg => .inr (O7.out.lt g hg))
                have HB8 : Hid (Below w.heap.size w w7) := (HBW.out.trans (BR5.out.drew.mono HBW.out.size)).trans (HB7.out.mono (HBW.out.trans (BR5.out.drew.mono HBW.out.size)).size)
                have O8 := Lib.hid o8
                have HBR8 := Lib.hid hbr8
                have d0 := Blk.cell hx8 0
                have d1 := Blk.cell hx8 1
                have d2 := Blk.cell hx8 2
                have d3 := Blk.cell hx8 3
                have e0 := Blk.cell hbr8 0
                have e1 := Blk.cell hbr8 1
                have e2 := Blk.cell hbr8 2
                have e3 := Blk.cell hbr8 3
                have f0 := Blk.frozen hbr8 0
                have f1 := Blk.frozen hbr8 1
                have f2 := Blk.frozen hbr8 2
                have f3 := Blk.frozen hbr8 3
                simp only [List.setIfInBounds_toArray, List.set_cons_zero, List.set_cons_succ, List.getElem?_toArray, List.getElem?_cons_zero, List.getElem?_cons_succ] at d0 d1 d2 d3 e0 e1 e2 e3
                have HXR := Lib.hid hXR
                clear hbx7 hbr7 hx8 o8 hbr8 hXR hc5 hc6 hc7 hf7 hrun hrun2
                generalize w7.setCell ⟨w.heap.size, 3, none⟩ (.slice p7 (j + (N - (j + 1))) k7) = W8 at *
                go_wp2_with fail
                have hz := putX_blk HBR8.out most ⟨d.nm, d.all, d.sl.take j ++ d.sl.drop (j + 1)⟩ ⟨a.p, a.c, a.pA, a.cA, p7, k7, a.C⟩
                have z0 := Blk.cell hz 0
                have z1 := Blk.cell hz 1
                have z2 := Blk.cell hz 2
                have z3 := Blk.cell hz 3
                have ho := putX_only (w := W8) (R := w.heap.size + 1) most ⟨d.nm, d.all, d.sl.take j ++ d.sl.drop (j + 1)⟩ ⟨a.p, a.c, a.pA, a.cA, p7, k7, a.C⟩
                have hN := HNL.out
                simp only [putX, List.getElem?_toArray, List.getElem?_cons_zero, List.getElem?_cons_succ] at z0 z1 z2 z3 ho
                rw [hN] at z0 z1 z2 z3 ho
                have o9 := (O8.out.more (S' := fun g => g = w.heap.size ∨ g = w.heap.size + 1) (fun g h => .inl (.inl h))).trans ho (fun g h => .inl (.inr h))
                exact bodyPost_ret (v := .tuple #[dixV most ⟨d.nm, d.all, d.sl.take j ++ d.sl.drop (j + 1)⟩ ⟨a.p, a.c, a.pA, a.cA, p7, k7, a.C⟩, .bool true, .int .i64 0]) (by simp [results, Tryz.results13, go_sem, z0, z1, z2, z3, hN]) rfl (by
                  rw [← HRES.out, HC.out]
                  have hs := HB8.out.size
                  have hs2 := HB7.out.size
                  have hs3 := HXR.out
                  have hs4 := o9.size
                  refine ⟨_, rfl, (HD7.out.only o9 (fun g hg he => ?_)).more (fun g hg => ?_), HB8.out.trans (o9.below (fun g hg => by omega) hs)⟩
                  · rcases hg with hg | hg
                    · have := HPP.out g hg; omega
                    · omega
                  · rcases hg with hg | hg
                    · exact .inl hg
                    · exact .inr ⟨by omega, by omega⟩)
          · have hb1 : ((kk : Int) == i) = false := by simpa using hki
            have hb2 : decide ((kk : Int) = i) = false := decide_eq_false hki
            have HKI := Lib.hid hki
            clear hki
            go_wp2_with fail
            go_roundg (N - (j + 1))
            case measure => have := HR.out; omega
            case rel => exact ⟨j + 1, by omega, by go_num, by rw [HOF.out]; go_num, (by unfold Hid; rw [HOF.out]; have := HI; unfold Hid at this; have := HKI.out; omega), BR.out⟩
        · have HOF : Hid ((ofX (d.sl.take (j + 1)) m).length = (ofX (d.sl.take j) m).length) := by unfold Hid; rw [HTK.out, ofX_app, ofX_cons, if_neg hxm]; simp [ofX]
          have hb1 : ((x1 : Int) == (m : Int)) = false := by simp; omega
          have hb2 : ((x1 : Int) != (m : Int)) = true := by simp; omega
          have hb3 : decide ((x1 : Int) = (m : Int)) = false := by simp; omega
          have hb4 : decide (x1 = m) = false := by simp; omega
          have hb5 : (x1 == m) = false := by simp; omega
          clear hxm
          generalize (ofX (d.sl.take j) m).length = kk at *
          go_wp2_with fail
          go_roundg (N - (j + 1))
          case measure => have := HR.out; omega
          case rel => exact ⟨j + 1, by omega, by go_num, by rw [HOF.out], by rw [HOF.out]; exact HI, BR.out⟩
      · obtain rfl : j = N := by omega
        have HTK : Hid (d.sl.take j = d.sl) := List.take_of_length_le (by rw [HN.out]; exact Nat.le_refl _)
        rw [HTK.out] at HI hwl
        have hc := cut_none (d := d) (i := i) HNB.out (by rw [Int.toNat_natCast]; have := HI; unfold Hid at this; omega)
        have HC := Lib.hid hc
        rw [HN.out] at d3
        rw [HTK.out]
        have HBW1 := Lib.hid (HBW.out.trans (BR.out.mono HBW.out.size))
        have H1 := Lib.hid (H.out.below BR.out)
        have HNN := Lib.hid HN.out
        generalize (ofX d.sl m).length = kk at *
        clear hc HI
        go_wp2_with fail
        have hN := HNN.out
        have hz := putX_blk HBR1.out most d a
        have z0 := Blk.cell hz 0
        have z1 := Blk.cell hz 1
        have z2 := Blk.cell hz 2
        have z3 := Blk.cell hz 3
        have ho := putX_only (w := wr) (R := w.heap.size + 1) most d a
        simp only [putX, List.getElem?_toArray, List.getElem?_cons_zero, List.getElem?_cons_succ] at z0 z1 z2 z3 ho
        rw [hN] at z0 z1 z2 z3 ho
        exact bodyPost_ret (v := .tuple #[dixV most d a, .bool false, .int .i64 9]) (by simp [results, Tryz.results13, go_sem, z0, z1, z2, z3, hN]) rfl (by rw [← HRES.out, HC.out]; exact ⟨a, rfl, (H1.out.only ho (fun g hg he => by have := HPP.out g hg; omega)).more (fun g hg => .inl hg), HBW1.out.trans (ho.below (fun g hg => by omega) HBW1.out.size)⟩)
end Go.Proofs.YtfpkeinknhijaaaGreat
