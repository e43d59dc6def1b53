/- The document's Soft. -/
import Derived.Test.YtckdfnlleaifcaaStnB
import Derived.Deep.DeepCutAuto
namespace Go.Proofs.Ytckdfnlleaifcaa
set_option linter.unusedVariables false
open Go.RowKit Go.Maps Go.Sort

theorem pok_add {A last : Nat} {P : Pg} (h : POk A last P) : POk A (last + 1) ⟨P.hard, addS (last + 1) A P.soft⟩ where
  up := addS_up h.up h.tm
  hard := Nat.le_succ_of_le h.hard
  st := fun x hx => by
    rcases addS_mem hx with hx | rfl
    · have := h.st x hx; omega
    · exact ⟨Nat.succ_pos _, Nat.le_refl _⟩
  tm := fun x hx => by
    rcases addS_mem hx with hx | rfl
    · exact h.tm x hx
    · exact Nat.le_refl _
theorem pok_known {A last t : Nat} {d : List Tg} (h : LOk A last d) : POk A last (knownP t d) := by
  unfold knownP
  cases hx : getT t d with
  | none => exact ⟨List.Pairwise.nil, Nat.zero_le _, (fun x hx => by cases hx), (fun x hx => by cases hx)⟩
  | some x => exact h.p x (getT_mem hx).1
theorem know_soft {gr now A last t : Nat} {d : List Tg} (h : LOk now last d) (hA : now ≤ A) :
    knowT (normT gr A ⟨t, ⟨(knownP t (advD gr A d)).hard, addS (last + 1) A (knownP t (advD gr A d)).soft⟩⟩) (advD gr A d) = softD gr A (last + 1) t d := by
  have hp := pok_add (pok_known (t := t) (h.norm gr hA))
  have hne : PNe (normP gr A ⟨(knownP t (advD gr A d)).hard, addS (last + 1) A (knownP t (advD gr A d)).soft⟩) := PNe.norm hp (.inr (addS_ne _ _ _)) gr A
  unfold knowT softD
  rw [if_neg (fun e => by rcases hne with h1 | h1; exact h1 e.1; exact h1 e.2)]
/-- Soft's boxes, and the row of what stays. -/
structure Sv (w1 wr : World) (gr A L1 n5 : Nat) (q1 : Option Addr) (c1 t ph : Nat) (q3 : Option Addr) (k c3 : Nat) (S : List Sft) (X SB : Nat) : Prop where
  bn : Blk wr w1.heap.size 57 #[.int .u64 (gr : Int), .int .u64 (A : Int), .int .u64 (L1 : Int), .slice q1 n5 c1]
  bx : Blk wr X 43 #[.int .i64 (t : Int), .int .u64 (ph : Int), .slice q3 k c3]
  ow : wr.ownsRow SB 52 2 (.slice q3 k c3) k (softCells S)
  xo : (Value.slice q3 k c3).ownBlock ≠ some X
  bl : SB ≤ wr.heap.size
  bb : w1.heap.size < SB
  xb : w1.heap.size < X
  bel : Below w1.heap.size w1 wr
  kl : k ≤ 99000
/-- The same, when the row is done. -/
structure Sn (w1 wr : World) (gr A L1 n5 : Nat) (q1 : Option Addr) (c1 t ph : Nat) (q3 : Option Addr) (k c3 : Nat) (S : List Sft) (X : Nat) : Prop where
  bn : Blk wr w1.heap.size 57 #[.int .u64 (gr : Int), .int .u64 (A : Int), .int .u64 (L1 : Int), .slice q1 n5 c1]
  bx : Blk wr X 43 #[.int .i64 (t : Int), .int .u64 (ph : Int), .slice q3 k c3]
  so : RowAt wr 2 (.slice q3 k c3) S.length (softCells S)
  bel : Below w1.heap.size w1 wr
section
variable {w1 wr w2 : World} {gr A L1 n5 c1 t ph k c3 c7 X SB : Nat} {q1 q3 q7 : Option Addr} {S S2 : List Sft}
theorem Sv.below (h : Sv w1 wr gr A L1 n5 q1 c1 t ph q3 k c3 S X SB) (hb : Below wr.heap.size wr w2) : Sv w1 w2 gr A L1 n5 q1 c1 t ph q3 k c3 S X SB :=
  ⟨h.bn.below hb h.bn.lt, h.bx.below hb h.bx.lt, ownsRow_below h.ow hb, h.xo, Nat.le_trans h.bl hb.size, h.bb, h.xb, h.bel.trans (hb.mono h.bel.size), h.kl⟩
theorem Sv.cells (h : Sv w1 wr gr A L1 n5 q1 c1 t ph q3 k c3 S X SB) : wr.cell? ⟨w1.heap.size, 0, none⟩ = some (.int .u64 (gr : Int)) ∧ wr.cell? ⟨w1.heap.size, 1, none⟩ = some (.int .u64 (A : Int)) ∧ wr.cell? ⟨w1.heap.size, 2, none⟩ = some (.int .u64 (L1 : Int)) ∧ wr.cell? ⟨w1.heap.size, 3, none⟩ = some (.slice q1 n5 c1) ∧
    wr.cell? ⟨X, 0, none⟩ = some (.int .i64 (t : Int)) ∧ wr.cell? ⟨X, 1, none⟩ = some (.int .u64 (ph : Int)) ∧ wr.cell? ⟨X, 2, none⟩ = some (.slice q3 k c3) :=
  ⟨Blk.cell h.bn 0, Blk.cell h.bn 1, Blk.cell h.bn 2, Blk.cell h.bn 3, Blk.cell h.bx 0, Blk.cell h.bx 1, Blk.cell h.bx 2⟩
theorem Sv.app (h : Sv w1 wr gr A L1 n5 q1 c1 t ph q3 k c3 S X SB) (ho : Only (fun z => (Value.slice q3 k c3).ownBlock = some z) wr w2) (hown : w2.ownsRow SB 52 2 (.slice q7 (k + 1) c7) (k + 1) (softCells S ++ [.int .u64 (L1 : Int), .int .u64 (A : Int)])) (hS : S2 = S ++ [⟨L1, A⟩]) (hX : (Value.slice q7 (k + 1) c7).ownBlock ≠ some X) :
    Sn w1 (w2.setCell ⟨X, 2, none⟩ (.slice q7 (k + 1) c7)) gr A L1 n5 q1 c1 t ph q7 (k + 1) c7 S2 X := by
  have hxl := h.bx.lt
  have hO : Only (fun z => z = X) w2 (w2.setCell ⟨X, 2, none⟩ (.slice q7 (k + 1) c7)) := (Only.refl (fun z => z = X) w2).setCell1 (g := X) (.inl rfl) 2 _
  have hk : k = S.length := by
    have := h.ow.1
    rw [softCells_len] at this
    omega
  have hn : ∀ z, (Value.slice q3 k c3).ownBlock = some z → w1.heap.size < z := fun z hz => by have := (h.ow.lt z hz).1; have := h.bb; omega
  refine ⟨(h.bn.only ho (fun e => by have := hn _ e; omega)).only hO (by have := h.xb; omega), ?_, ?_, (h.bel.trans (ho.below (fun z hz => by have := hn z hz; omega) h.bel.size)).trans (hO.below (fun z hz => by have := h.xb; omega) (by have := h.bel.size; have := ho.size; omega))⟩
  · have := (h.bx.only ho (fun e => h.xo e)).set_ 2 (.slice q7 (k + 1) c7)
    simpa using this
  · have h2 := ownsRow_only hown hO (fun z hz e => hX (by rw [hz, e]))
    have h3 := RowAt.of_own h2
    subst hS
    rw [show (S ++ [(⟨L1, A⟩ : Sft)]).length = k + 1 by rw [List.length_append, hk]; rfl, softCells_app]
    exact h3
/-- The last stamp is set. -/
theorem Sv.set {ys : List Sft} {y : Sft} {g o : Nat} (h : Sv w1 wr gr A L1 n5 q1 c1 t ph (some ⟨g, o, none⟩) k c3 S X SB) (hS : S = ys ++ [y]) (hy : y.tm = A) :
    Sn w1 (wr.setCell ⟨g, o + ys.length * 2, none⟩ (.int .u64 (L1 : Int))) gr A L1 n5 q1 c1 t ph (some ⟨g, o, none⟩) k c3 (ys ++ [⟨L1, A⟩]) X := by
  have hk : k = S.length := by
    have := h.ow.1
    rw [softCells_len] at this
    omega
  have hg := (h.ow.lt g rfl).1
  have hO : Only (fun z => z = g) wr (wr.setCell ⟨g, o + ys.length * 2, none⟩ (.int .u64 (L1 : Int))) := (Only.refl (fun z => z = g) wr).setCell1 (g := g) (.inl rfl) _ _
  have hgX : g ≠ X := fun e => h.xo (by rw [← e]; rfl)
  have hm := (Mid.of_own h.ow (by have := h.kl; unfold maxLen; omega)).set (ys.length * 2) (.int .u64 (L1 : Int))
  refine ⟨h.bn.only hO (by have := h.bb; omega), h.bx.only hO (fun e => hgX e.symm), ?_, h.bel.trans (hO.below (fun z hz => by have := h.bb; omega) h.bel.size)⟩
  have e1 : (softCells S).set (ys.length * 2) (.int .u64 (L1 : Int)) = softCells (ys ++ [⟨L1, A⟩]) := by
    rw [hS, softCells_app, softCells_app, List.set_append_right _ _ (by rw [softCells_len]; exact Nat.le_refl _), softCells_len, Nat.sub_self]
    show _ ++ [Value.int .u64 (L1 : Int), Value.int .u64 (y.tm : Int)] = _ ++ [Value.int .u64 (L1 : Int), Value.int .u64 (A : Int)]
    rw [hy]
  rw [e1] at hm
  have h3 := hm.rowAt
  have e2 : (ys ++ [(⟨L1, A⟩ : Sft)]).length = k := by rw [hk, hS]; simp
  rw [e2]
  exact h3
end
section
variable {w w' : World} {now last n5 c n6 : Nat} {q : Option Addr} {E : List Ev} {d : List Tg}
set_option maxHeartbeats 8000000 in
set_option maxRecDepth 100000 in
theorem Dok.softd (h : Dok w now last q n5 c E d) (gr t : Nat) (ht : tagB (t : Int) = true) (hl : last < 18446744073709551615) (a : Nat) (ha : a ≤ 18446744073709551615) :
    Calls Try.prog 49 #[mV gr now last (.slice q n5 c), .int .i64 (t : Int), .int .u64 (a : Int)] w (NxP w gr (max now a) (last + 1) (softD gr (max now a) (last + 1) t d).length (.slice q n5 c) E (softD gr (max now a) (last + 1) t d) 0) := by
  have A0 := Lib.hid (Av.start (gr := gr) (now := now) (last := last) h.li h.ln h.un)
  have HT := Lib.hid h.lt
  have HA := Lib.hid ((h.below A0.out.bel).next gr hl a ha)
  have HG := Lib.hid (fun w' => rtag_any (t : Int) w')
  rw [ht] at HG
  have hA : now ≤ max now a := by omega
  have hlo : LOk (max now a) last (advD gr (max now a) d) := h.ok.norm gr hA
  have HUP : Hid (TUp (advD gr (max now a) d)) := hlo.up
  have hsm := h.sm
  have hpk := pok_add (pok_known (t := t) hlo)
  have hks := know_soft (gr := gr) (t := t) h.ok hA
  have hps : (knownP t (advD gr (max now a) d)).soft.length ≤ 99000 := by
    unfold knownP
    cases hx : getT t (advD gr (max now a) d) with
    | none => exact Nat.zero_le _
    | some x =>
      obtain ⟨y, hy, rfl⟩ := List.mem_map.1 (getT_mem hx).1
      exact Nat.le_trans (List.length_filter_le _ _) (Nat.le_of_lt (h.ss y hy))
  have hA2 : max now a ≤ 18446744073709551615 := by have := h.nb; omega
  clear h hl ht hlo hA ha
  obtain ⟨W, hW⟩ : ∃ W, W = (w.alloc (.cells #[.int .u64 (gr : Int), .int .u64 (now : Int), .int .u64 (last : Int), .slice q n5 c] 57)).alloc (.cells #[.int .u64 0, .int .u64 0, .int .u64 0, .slice none 0 0] 57) := ⟨_, rfl⟩
  rw [← hW] at A0 HA
  have HW := Lib.hid hW
  clear hW
  generalize last + 1 = L1 at *
  generalize max now a = A at *
  obtain ⟨d2, hd2⟩ : ∃ d2, d2 = softD gr A L1 t d := ⟨_, rfl⟩
  obtain ⟨d1, hd1⟩ : ∃ d1, d1 = advD gr A d := ⟨_, rfl⟩
  rw [← hd2] at hks ⊢
  rw [← hd1] at hks hpk hps HUP HA
  obtain ⟨P, hP⟩ : ∃ P, P = knownP t d1 := ⟨_, rfl⟩
  rw [← hP] at hks hpk hps
  have HP := Lib.hid hP
  obtain ⟨ph, ps⟩ := P
  dsimp only at hks hpk hps
  obtain ⟨n6, hn6⟩ : ∃ n6, n6 = d2.length := ⟨_, rfl⟩
  rw [← hn6]
  have HKN := Lib.hid hks
  have HN6 := Lib.hid hn6
  have HTM := Lib.hid (fun y hy => Nat.le_trans (hpk.tm y hy) hA2)
  clear hd2 hks hn6 hd1 hP hpk
  go_enter Try.func49, Try.ntmps49
  go_wp2_with (go_at_call 10; refine (HG.out _).mono ?_; rintro e w' ⟨rfl, rfl⟩)
  rw [← HW.out]
  refine HA.out.mono ?_
  rintro e w1 ⟨q1, c1, E1, rfl, hn1, hu1, dv1⟩
  have b2 := (Below.refl w1.heap.size w1).alloc (Nat.le_refl _) (.cells #[.int .u64 (gr : Int), .int .u64 (A : Int), .int .u64 (L1 : Int), .slice q1 n5 c1] 57)
  have HN1 := Lib.hid hn1
  have HU1 := Lib.hid hu1
  have D1 := Lib.hid dv1
  have HOF := Lib.hid (rof_any (v := .slice q1 n5 c1) (dv1.below b2).li (by rw [hu1]; exact HUP.out) (gr : Int) (A : Int) (L1 : Int) t)
  rw [hu1, ← HP.out] at HOF
  have B2 := Lib.hid b2
  clear dv1 hn1 hu1 b2 HA HG HW
  go_wp2_with fail
  refine HOF.out.mono ?_
  rintro e w3 ⟨q3, c3, SB, rfl, ow3, hB3, b3⟩
  obtain ⟨k, hk⟩ : ∃ k, k = ps.length := ⟨_, rfl⟩
  rw [← hk] at ow3 ⊢
  have hN := (Blk.new w1 57 #[.int .u64 (gr : Int), .int .u64 (A : Int), .int .u64 (L1 : Int), .slice q1 n5 c1])
  have h3s := b3.size
  have h3t : (w1.alloc (.cells #[.int .u64 (gr : Int), .int .u64 (A : Int), .int .u64 (L1 : Int), .slice q1 n5 c1] 57)).heap.size = w1.heap.size + 1 := by simp
  have SV : Hid (Sv w1 (w3.alloc (.cells #[.int .i64 (t : Int), .int .u64 (ph : Int), .slice q3 k c3] 43)) gr A L1 n5 q1 c1 t ph q3 k c3 ps w3.heap.size (w1.heap.size + 1)) :=
    ⟨(hN.below b3 hN.lt).alloc _, Blk.new _ _ _, (ownsRow_low ow3 (by omega)).alloc _, (fun e => by have := (ow3.lt _ e).2; omega), by simp; omega, by omega, by omega, (B2.out.trans (b3.mono (by omega))).alloc (by omega) _, by omega⟩
  clear hN h3s h3t ow3 hB3 b3 B2 HOF
  have hxw : w1.heap.size < w3.heap.size := SV.out.xb
  have HK := Lib.hid hk
  have hkl : k ≤ 99000 := by omega
  clear hk
  go_wp2_with fail
  obtain ⟨X, hX⟩ : ∃ X, w3.heap.size = X := ⟨_, rfl⟩
  rw [hX] at SV hxw
  simp only [hX]
  clear hX
  generalize w3.alloc (.cells #[.int .i64 (t : Int), .int .u64 (ph : Int), .slice q3 k c3] 43) = W4 at *
  obtain ⟨k0, k1, k2, k3, x0, x1, x2⟩ := SV.out.cells
  by_cases hnil : k = 0
  · have hg : decide (0 < k) = false := decide_eq_false (by omega)
    have hg2 : decide ((0 : Int) < (k : Int)) = false := decide_eq_false (by omega)
    have HAD : Hid (addS L1 A ps = ps ++ [⟨L1, A⟩]) := by
      have : ps = [] := List.eq_nil_of_length_eq_zero (by rw [← HK.out]; exact hnil)
      subst this
      exact addS_nil L1 A
    clear hnil
    go_quiet (fail)
    have SV2 := Lib.hid (SV.out.below (below_drewN (Below.refl W4.heap.size W4) nq : Below W4.heap.size W4 (W4.drewN nq)))
    generalize W4.drewN nq = W5 at *
    clear k0 k1 k2 k3 x0 x1 x2 SV hg hg2
    obtain ⟨k0, k1, k2, k3, x0, x1, x2⟩ := SV2.out.cells
    have hxl := SV2.out.bx.lt
    have hx1 : ¬ X = W5.heap.size := by omega
    have hx2 : ¬ W5.heap.size = X := by omega
    obtain ⟨i0, hi, hp0⟩ := Option.map_eq_some_iff.1 sfInfo
    have hz0 : i0.zero = some (.agg #[.int .u64 0, .int .u64 0]) := congrArg (·.1) hp0
    have hz1 : i0.size = 2 := congrArg (·.2.1) hp0
    have hz2 : i0.bytes = 16 := congrArg (·.2.2) hp0
    clear hp0
    have hkl := SV2.out.kl
    go_wp2_with (at_builtin; refine wpList_append_lying _ rfl _ _ 41 rfl (w1.heap.size + 1) 52 i0 (.agg #[.int .u64 0, .int .u64 0]) 2 16 Try.underlying41 hi hz0 hz1 hz2 rfl (by decide) _ _ _ rfl (SV2.out.ow.alloc _) _ 1 [.int .u64 (L1 : Int), .int .u64 (A : Int)] rfl (lies_blk2 (Blk.new _ _ _)) (by intro u hu; simp at hu; rcases hu with rfl | rfl <;> rfl) (by unfold maxLen; omega) (by omega) (by have := SV2.out.bl; simp; omega) ?_)
    intro v7 w7 hown7 hg7 hat7
    obtain ⟨q7, c7, rfl⟩ := own_form hown7
    have hon : Only (fun z => (Value.slice q3 k c3).ownBlock = some z) W5 w7 := (((Only.refl (fun z => (Value.slice q3 k c3).ownBlock = some z) W5).alloc _).trans (Only.of_grownR (S := fun z => (Value.slice q3 k c3).ownBlock = some z) hg7 (fun z hz => hz)) (fun z hz => .inl hz))
    have SN7 := Lib.hid (SV2.out.app hon hown7 HAD.out (hat7.elim (fun h1 => by rw [h1]; exact SV2.out.xo) (fun h1 => by rw [h1]; intro e; have := Option.some.inj e; omega)))
    have y0 := (SV2.out.bx.only hon (fun e => SV2.out.xo e)).cell 0
    have y1 := (SV2.out.bx.only hon (fun e => SV2.out.xo e)).cell 1
    have y2 := (SV2.out.bx.only hon (fun e => SV2.out.xo e)).cell 2
    have yf := (SV2.out.bx.only hon (fun e => SV2.out.xo e)).frozen
    simp only [List.getElem?_toArray, List.getElem?_cons_zero, List.getElem?_cons_succ] at y0 y1 y2
    clear k0 k1 k2 k3 x0 x1 x2 hon hown7 hg7 hat7 SV2
    go_upto_region 11 with (fail)
    have SN := SN7
    clear SN7 y0 y1 y2 yf
    generalize w7.setCell ⟨X, 2, none⟩ (.slice q7 (k + 1) c7) = W8 at *
    have D5 := Lib.hid (D1.out.below SN.out.bel)
    have HKW := Lib.hid (know_n (gr := gr) (now := A) (last := L1) D5.out.li HN1.out HU1.out HUP.out (by omega) ⟨t, ⟨ph, addS L1 A ps⟩⟩ SN.out.so (by have := addS_len L1 A ps; show (addS L1 A ps).length ≤ 100000; omega) HTM.out HKN.out HN6.out.symm)
    have k0 := SN.out.bn.cell 0
    have k1 := SN.out.bn.cell 1
    have k2 := SN.out.bn.cell 2
    have k3 := SN.out.bn.cell 3
    have x0 := SN.out.bx.cell 0
    have x1 := SN.out.bx.cell 1
    have x2 := SN.out.bx.cell 2
    simp only [List.getElem?_toArray, List.getElem?_cons_zero, List.getElem?_cons_succ] at k0 k1 k2 k3 x0 x1 x2
    go_wp2_with fail
    refine HKW.out.mono ?_
    rintro e w6 ⟨q6, c6, E6, rfl, hn6, hu6, dv6⟩
    have D6 := Lib.hid (D5.out.trans dv6)
    have A6 := Lib.hid (A0.out.below D6.out.bel)
    have HN6b := Lib.hid hn6
    have HU6 := Lib.hid hu6
    have rf := A6.out.br.frozen
    obtain ⟨r0, r1, r2, r3⟩ := A6.out.rcells
    clear hn6 hu6 dv6 HKW k0 k1 k2 k3 x0 x1 x2 D5 SN
    go_wp2_with fail
    obtain ⟨hfin, e0, e1, e2, e3⟩ := A0.out.ret HT.out (gr2 := gr) (now2 := A) (last2 := L1) D6.out
    exact bodyPost_ret (v := .tuple #[mV gr A L1 (.slice q6 n6 c6), .int .i64 0]) (by simp [results, Try.results49, go_sem, e0, e1, e2, e3]) rfl ⟨q6, c6, E6, rfl, HN6b.out, HU6.out, hfin⟩
  · have hg : decide (0 < k) = true := decide_eq_true (by omega)
    have hg2 : decide ((0 : Int) < (k : Int)) = true := decide_eq_true (by omega)
    obtain ⟨ys, y, hys⟩ : ∃ ys y, ps = ys ++ [y] := by
      rcases List.eq_nil_or_concat ps with hs | ⟨ys, y, hs⟩
      · exact absurd (by rw [HK.out, hs]; rfl) hnil
      · exact ⟨ys, y, by rw [hs, List.concat_eq_append]⟩
    have hyl : k = ys.length + 1 := by rw [HK.out, hys]; simp
    have hget : ps[ys.length]? = some y := by rw [hys]; simp
    obtain ⟨gs, o, cap', he, _, hgl, hcell, hfz⟩ := (Mid.of_own SV.out.ow (by unfold maxLen; omega)).at (by omega)
    injection he with he1 he2 he3
    subst he1 he3
    obtain ⟨d0, d1⟩ := softCells_get hget
    have f0 := hcell _ _ d0
    have f1 := hcell _ _ d1
    rw [← Nat.add_assoc] at f1
    have hfy0 := hfz (ys.length * 2) (by omega)
    have hi1 : (k : Int) - 1 = (ys.length : Int) := by omega
    have hi2 : ys.length < k := by omega
    have HYS := Lib.hid hys
    have HYL := Lib.hid hyl
    clear he2 d0 d1 hcell hfz hget hys hnil hyl
    by_cases hyA : y.tm = A
    · have hq : ((y.tm : Int) == (A : Int)) = true := by rw [hyA]; simp
      have HYA := Lib.hid hyA
      clear hyA
      go_quiet (fail)
      have SV2 := Lib.hid (SV.out.below (below_drewN (Below.refl W4.heap.size W4) nq : Below W4.heap.size W4 (W4.drewN nq)))
      have f0 : (W4.drewN nq).cell? ⟨gs, o + ys.length * 2, none⟩ = some (.int .u64 (y.st : Int)) := f0
      have f1 : (W4.drewN nq).cell? ⟨gs, o + ys.length * 2 + 1, none⟩ = some (.int .u64 (y.tm : Int)) := f1
      have hfy0 : (W4.drewN nq).frozen? ⟨gs, o + ys.length * 2, none⟩ = false := hfy0
      generalize W4.drewN nq = W5 at *
      have hwr : IntKind.i64.wrap (ys.length : Int) = (ys.length : Int) := IntWalk.i64_in _ (by omega)
      clear k0 k1 k2 k3 x0 x1 x2 SV hg hg2 hq
      obtain ⟨k0, k1, k2, k3, x0, x1, x2⟩ := SV2.out.cells
      go_upto_region 11 with (fail)
      clear k0 k1 k2 k3 x0 x1 x2 f0 f1 hfy0 hi1 hi2 hwr
      have SN : Hid (Sn w1 (W5.setCell ⟨gs, o + ys.length * 2, none⟩ (.int .u64 (L1 : Int))) gr A L1 n5 q1 c1 t ph (some ⟨gs, o, none⟩) k c3 (addS L1 A ps) X) := by
        unfold Hid
        rw [HYS.out, addS_last, if_pos HYA.out]
        exact SV2.out.set HYS.out HYA.out
      clear SV2
      generalize W5.setCell ⟨gs, o + ys.length * 2, none⟩ (.int .u64 (L1 : Int)) = W8 at *
      have D5 := Lib.hid (D1.out.below SN.out.bel)
      have HKW := Lib.hid (know_n (gr := gr) (now := A) (last := L1) D5.out.li HN1.out HU1.out HUP.out (by omega) ⟨t, ⟨ph, addS L1 A ps⟩⟩ SN.out.so (by have := addS_len L1 A ps; show (addS L1 A ps).length ≤ 100000; omega) HTM.out HKN.out HN6.out.symm)
      have k0 := SN.out.bn.cell 0
      have k1 := SN.out.bn.cell 1
      have k2 := SN.out.bn.cell 2
      have k3 := SN.out.bn.cell 3
      have x0 := SN.out.bx.cell 0
      have x1 := SN.out.bx.cell 1
      have x2 := SN.out.bx.cell 2
      simp only [List.getElem?_toArray, List.getElem?_cons_zero, List.getElem?_cons_succ] at k0 k1 k2 k3 x0 x1 x2
      go_wp2_with fail
      refine HKW.out.mono ?_
      rintro e w6 ⟨q6, c6, E6, rfl, hn6, hu6, dv6⟩
      have D6 := Lib.hid (D5.out.trans dv6)
      have A6 := Lib.hid (A0.out.below D6.out.bel)
      have HN6b := Lib.hid hn6
      have HU6 := Lib.hid hu6
      have rf := A6.out.br.frozen
      obtain ⟨r0, r1, r2, r3⟩ := A6.out.rcells
      clear hn6 hu6 dv6 HKW k0 k1 k2 k3 x0 x1 x2 D5 SN
      go_wp2_with fail
      obtain ⟨hfin, e0, e1, e2, e3⟩ := A0.out.ret HT.out (gr2 := gr) (now2 := A) (last2 := L1) D6.out
      exact bodyPost_ret (v := .tuple #[mV gr A L1 (.slice q6 n6 c6), .int .i64 0]) (by simp [results, Try.results49, go_sem, e0, e1, e2, e3]) rfl ⟨q6, c6, E6, rfl, HN6b.out, HU6.out, hfin⟩
    · have hq : ((y.tm : Int) == (A : Int)) = false := by rw [beq_eq_false_iff_ne]; omega
      have HAD : Hid (addS L1 A ps = ps ++ [⟨L1, A⟩]) := by
        unfold Hid
        rw [HYS.out, addS_last, if_neg hyA]
      clear hyA
      go_quiet (fail)
      have SV2 := Lib.hid (SV.out.below (below_drewN (Below.refl W4.heap.size W4) nq : Below W4.heap.size W4 (W4.drewN nq)))
      generalize W4.drewN nq = W5 at *
      clear k0 k1 k2 k3 x0 x1 x2 SV hg hg2 hq f0 f1 hfy0 hi1 hi2
      obtain ⟨k0, k1, k2, k3, x0, x1, x2⟩ := SV2.out.cells
      have hxl := SV2.out.bx.lt
      have hx1 : ¬ X = W5.heap.size := by omega
      have hx2 : ¬ W5.heap.size = X := by omega
      obtain ⟨i0, hi, hp0⟩ := Option.map_eq_some_iff.1 sfInfo
      have hz0 : i0.zero = some (.agg #[.int .u64 0, .int .u64 0]) := congrArg (·.1) hp0
      have hz1 : i0.size = 2 := congrArg (·.2.1) hp0
      have hz2 : i0.bytes = 16 := congrArg (·.2.2) hp0
      clear hp0
      have hkl := SV2.out.kl
      go_wp2_with (at_builtin; refine wpList_append_lying _ rfl _ _ 41 rfl (w1.heap.size + 1) 52 i0 (.agg #[.int .u64 0, .int .u64 0]) 2 16 Try.underlying41 hi hz0 hz1 hz2 rfl (by decide) _ _ _ rfl (SV2.out.ow.alloc _) _ 1 [.int .u64 (L1 : Int), .int .u64 (A : Int)] rfl (lies_blk2 (Blk.new _ _ _)) (by intro u hu; simp at hu; rcases hu with rfl | rfl <;> rfl) (by unfold maxLen; omega) (by omega) (by have := SV2.out.bl; simp; omega) ?_)
      intro v7 w7 hown7 hg7 hat7
      obtain ⟨q7, c7, rfl⟩ := own_form hown7
      have hon : Only (fun z => (Value.slice (some ⟨gs, o, none⟩) k c3).ownBlock = some z) W5 w7 := (((Only.refl (fun z => (Value.slice (some ⟨gs, o, none⟩) k c3).ownBlock = some z) W5).alloc _).trans (Only.of_grownR (S := fun z => (Value.slice (some ⟨gs, o, none⟩) k c3).ownBlock = some z) hg7 (fun z hz => hz)) (fun z hz => .inl hz))
      have SN7 := Lib.hid (SV2.out.app hon hown7 HAD.out (hat7.elim (fun h1 => by rw [h1]; exact SV2.out.xo) (fun h1 => by rw [h1]; intro e; have := Option.some.inj e; omega)))
      have y0 := (SV2.out.bx.only hon (fun e => SV2.out.xo e)).cell 0
      have y1 := (SV2.out.bx.only hon (fun e => SV2.out.xo e)).cell 1
      have y2 := (SV2.out.bx.only hon (fun e => SV2.out.xo e)).cell 2
      have yf := (SV2.out.bx.only hon (fun e => SV2.out.xo e)).frozen
      simp only [List.getElem?_toArray, List.getElem?_cons_zero, List.getElem?_cons_succ] at y0 y1 y2
      clear k0 k1 k2 k3 x0 x1 x2 hon hown7 hg7 hat7 SV2
      go_upto_region 11 with (fail)
      have SN := SN7
      clear SN7 y0 y1 y2 yf
      generalize w7.setCell ⟨X, 2, none⟩ (.slice q7 (k + 1) c7) = W8 at *
      have D5 := Lib.hid (D1.out.below SN.out.bel)
      have HKW := Lib.hid (know_n (gr := gr) (now := A) (last := L1) D5.out.li HN1.out HU1.out HUP.out (by omega) ⟨t, ⟨ph, addS L1 A ps⟩⟩ SN.out.so (by have := addS_len L1 A ps; show (addS L1 A ps).length ≤ 100000; omega) HTM.out HKN.out HN6.out.symm)
      have k0 := SN.out.bn.cell 0
      have k1 := SN.out.bn.cell 1
      have k2 := SN.out.bn.cell 2
      have k3 := SN.out.bn.cell 3
      have x0 := SN.out.bx.cell 0
      have x1 := SN.out.bx.cell 1
      have x2 := SN.out.bx.cell 2
      simp only [List.getElem?_toArray, List.getElem?_cons_zero, List.getElem?_cons_succ] at k0 k1 k2 k3 x0 x1 x2
      go_wp2_with fail
      refine HKW.out.mono ?_
      rintro e w6 ⟨q6, c6, E6, rfl, hn6, hu6, dv6⟩
      have D6 := Lib.hid (D5.out.trans dv6)
      have A6 := Lib.hid (A0.out.below D6.out.bel)
      have HN6b := Lib.hid hn6
      have HU6 := Lib.hid hu6
      have rf := A6.out.br.frozen
      obtain ⟨r0, r1, r2, r3⟩ := A6.out.rcells
      clear hn6 hu6 dv6 HKW k0 k1 k2 k3 x0 x1 x2 D5 SN
      go_wp2_with fail
      obtain ⟨hfin, e0, e1, e2, e3⟩ := A0.out.ret HT.out (gr2 := gr) (now2 := A) (last2 := L1) D6.out
      exact bodyPost_ret (v := .tuple #[mV gr A L1 (.slice q6 n6 c6), .int .i64 0]) (by simp [results, Try.results49, go_sem, e0, e1, e2, e3]) rfl ⟨q6, c6, E6, rfl, HN6b.out, HU6.out, hfin⟩
end
end Go.Proofs.Ytckdfnlleaifcaa
