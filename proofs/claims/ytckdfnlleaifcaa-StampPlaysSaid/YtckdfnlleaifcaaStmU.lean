/- The document's Copy, Find, Of, First. -/
import Derived.Test.YtckdfnlleaifcaaStmR
import Derived.BigQuiet
namespace Go.Proofs.Ytckdfnlleaifcaa
set_option linter.unusedVariables false
open Go.RowKit Go.Maps Go.Sort

/-- A copy: soft purges in a row of its own. -/
def CpP (w : World) (t h : Nat) (s : List Sft) (e : Ending) (w' : World) : Prop :=
  ∃ q c B, e = .returned (.agg #[.int .i64 (t : Int), .int .u64 (h : Int), .slice q s.length c]) ∧ w'.ownsRow B 52 2 (.slice q s.length c) s.length (softCells s) ∧ w.heap.size ≤ B ∧ Below w.heap.size w w'
set_option maxHeartbeats 4000000 in
set_option maxRecDepth 100000 in
theorem rcopy_any {w : World} {v : Value} {s : List Sft} (t h : Nat) (hv : SoftAt w v s) (hl : s.length ≤ 1000000) :
    Calls Try.prog 32 #[.agg #[.int .i64 (t : Int), .int .u64 (h : Int), v]] w (CpP w t h s) := by
  obtain ⟨p, cap, rfl, _⟩ := hv.form
  obtain ⟨i0, hi, hp0⟩ := Option.map_eq_some_iff.1 sfInfo
  have hz0 : i0.zero = some (.agg #[.int .u64 0, .int .u64 0]) := congrArg (·.1) hp0
  have hz1 : i0.size = 2 := congrArg (·.2.1) hp0
  have hz2 : i0.bytes = 16 := congrArg (·.2.2) hp0
  clear hp0
  have hx := Blk.alloc (Blk.new w 43 #[.int .i64 (t : Int), .int .u64 (h : Int), .slice p s.length cap]) (.cells #[.int .i64 0, .int .u64 0, .slice none 0 0] 43)
  have hy := Blk.new (w.alloc (.cells #[.int .i64 (t : Int), .int .u64 (h : Int), .slice p s.length cap] 43)) 43 #[.int .i64 0, .int .u64 0, .slice none 0 0]
  have hb := ((Below.refl w.heap.size w).alloc (Nat.le_refl _) (.cells #[.int .i64 (t : Int), .int .u64 (h : Int), .slice p s.length cap] 43)).alloc (by simp) (.cells #[.int .i64 0, .int .u64 0, .slice none 0 0] 43)
  have HR := Lib.hid (hv.below hb).lies
  rw [show (w.alloc (.cells #[.int .i64 (t : Int), .int .u64 (h : Int), .slice p s.length cap] 43)).heap.size = w.heap.size + 1 by simp] at hy
  have HX := Lib.hid hx
  have HY := Lib.hid hy
  have HB := Lib.hid hb
  clear hx hy hb hv
  go_enter Try.func32, Try.ntmps32
  go_wp2_with (at_builtin; refine wpList_append_lying _ rfl _ _ 41 rfl (w.heap.size + 2) 52 i0 (.agg #[.int .u64 0, .int .u64 0]) 2 16 Try.underlying41 hi hz0 hz1 hz2 rfl (by decide) _ 0 [] rfl (World.ownsRow_nil _ _ _ _) _ s.length (softCells s) rfl HR.out (softCells_one s) (by unfold maxLen; omega) (by omega) (by simp) ?_; intro v1 w1 hown1 hg1 hat1; obtain ⟨p1, c1, rfl⟩ := own_form hown1; have hx1 := HX.out.grown (row := none) hg1 (by simp); have hy1 := HY.out.grown (row := none) hg1 (by simp); have hbg : Below w.heap.size w w1 := HB.out.grown (row := none) hg1 (by simp; omega) (by intro k hk; cases hk); have c0 := hx1.cell 0; have c1' := hx1.cell 1; have c2 := hx1.cell 2; have d0 := hy1.cell 0; have d1 := hy1.cell 1; have d2 := hy1.cell 2; simp only [List.getElem?_toArray, List.getElem?_cons_zero, List.getElem?_cons_succ] at c0 c1' c2 d0 d1 d2; have f0 := hx1.frozen; have f1 := hy1.frozen; have hxl := hx1.lt; have hyl := hy1.lt; have H1 := Lib.hid hown1; have G1 := Lib.hid hbg; have HX1 := Lib.hid hx1; have HY1 := Lib.hid hy1; clear hown1 hg1 hat1 hx1 hy1 hbg HX HY HR HB; simp only [List.nil_append, Nat.zero_add] at H1 ⊢)
  have hne : ¬ w.heap.size + 1 = w.heap.size := by omega
  have z := ((HY1.out.far (p := ⟨w.heap.size, 2, none⟩) (by simp) (.slice p1 s.length c1)).set_ 0 (.int .i64 (t : Int))).set_ 1 (.int .u64 (h : Int)) |>.set_ 2 (.slice p1 s.length c1)
  have e0 := z.cell 0
  have e1 := z.cell 1
  have e2 := z.cell 2
  simp only [List.setIfInBounds_toArray, List.set_cons_zero, List.set_cons_succ, List.getElem?_toArray, List.getElem?_cons_zero, List.getElem?_cons_succ] at e0 e1 e2
  have hO := (((Only.refl (fun x => x = w.heap.size ∨ x = w.heap.size + 1) w1).setCell1 (g := w.heap.size) (.inl (.inl rfl)) 2 (.slice p1 s.length c1)).setCell1 (g := w.heap.size + 1) (.inl (.inr rfl)) 0 (.int .i64 (t : Int))).setCell1 (g := w.heap.size + 1) (.inl (.inr rfl)) 1 (.int .u64 (h : Int)) |>.setCell1 (g := w.heap.size + 1) (.inl (.inr rfl)) 2 (.slice p1 s.length c1)
  refine bodyPost_ret (v := .agg #[.int .i64 (t : Int), .int .u64 (h : Int), .slice p1 s.length c1]) (by simp [results, Try.results32, go_sem, e0, e1, e2]) rfl ⟨p1, c1, w.heap.size + 2, rfl, ownsRow_only H1.out hO (fun g hg hs => ?_), by omega, G1.out.trans (hO.below (fun g hg => by omega) G1.out.size)⟩
  have := (H1.out.lt g hg).1
  omega
/-- The document's stamps, as a value. -/
abbrev mV (gr now last : Int) (v : Value) : Value := .agg #[.int .u64 gr, .int .u64 now, .int .u64 last, v]
def FindP (w : World) (t : Nat) (E : List Ev) (e : Ending) (w' : World) : Prop :=
  Below w.heap.size w w' ∧ ((e = .returned (.int .i64 (-1)) ∧ getT t (unE E) = none) ∨ ∃ (i : Nat) (ev : Ev), e = .returned (.int .i64 (i : Int)) ∧ E[i]? = some ev ∧ getT t (unE E) = some ev.x)
theorem getT_nil {t : Nat} {E : List Ev} (h : ∀ ev ∈ E, ev.x.tag ≠ t) : getT t (unE E) = none := by
  unfold getT
  rw [List.find?_eq_none]
  intro x hx
  obtain ⟨ev, he, rfl⟩ := List.mem_map.1 hx
  simpa using h ev he
theorem getT_ev {t : Nat} {E : List Ev} (hu : TUp (unE E)) {ev : Ev} (he : ev ∈ E) (ht : ev.x.tag = t) : getT t (unE E) = some ev.x := by
  rw [← ht]
  exact getT_of hu (List.mem_map.2 ⟨ev, he, rfl⟩)
set_option maxHeartbeats 4000000 in
set_option maxRecDepth 100000 in
theorem rfind_any {w : World} {v : Value} {E : List Ev} (hl : ListAt w v E) (hu : TUp (unE E)) (gr now last : Int) (t : Nat) :
    Calls Try.prog 54 #[mV gr now last v, .int .i64 (t : Int)] w (FindP w t E) := by
  obtain ⟨p, cap, rfl, _⟩ := hl.row.form
  have hb := (Below.refl w.heap.size w).alloc (Nat.le_refl _) (.cells #[.int .u64 gr, .int .u64 now, .int .u64 last, .slice p E.length cap] 57)
  have hx := Blk.new w 57 #[.int .u64 gr, .int .u64 now, .int .u64 last, .slice p E.length cap]
  have HL := Lib.hid (hl.below hb)
  have HB := Lib.hid hb
  have HX := Lib.hid hx
  have HU := Lib.hid hu
  have hs := hl.small.1
  obtain ⟨n, hn⟩ : ∃ n, n = E.length := ⟨_, rfl⟩
  rw [← hn] at hs HX HB HL ⊢
  have HN := Lib.hid hn
  clear hl hu hb hx hn
  obtain ⟨W, hW⟩ : ∃ W, W = w.alloc (.cells #[.int .u64 gr, .int .u64 now, .int .u64 last, .slice p n cap] 57) := ⟨_, rfl⟩
  rw [← hW] at HL HB HX
  have HW := Lib.hid hW
  clear hW
  go_enter Try.func54, Try.ntmps54
  go_wp2_with fail
  rw [← HW.out]
  have x3 := HX.out.cell 3
  simp only [List.getElem?_toArray, List.getElem?_cons_zero, List.getElem?_cons_succ] at x3
  go_loopg [5] n (fun r s5 wr => ∃ i : Nat, r + i = n ∧ s5 = .int .i64 (i : Int) ∧ wr = W ∧ ∀ j ev, j < i → E[j]? = some ev → ev.x.tag ≠ t)
  case atStart => exact ⟨0, rfl, rfl, rfl, by intro j ev h; omega⟩
  case round =>
    obtain ⟨i, hi, rfl, rfl, hno⟩ := hrel
    have HI := Lib.hid hi
    have HNO := Lib.hid hno
    have hil : i ≤ n := by omega
    clear hi hno
    by_cases hlt : i < n
    · obtain ⟨ev, hev⟩ : ∃ ev, E[i]? = some ev := ⟨E[i]'(by rw [← HN.out]; exact hlt), List.getElem?_eq_getElem _⟩
      obtain ⟨g, o, c, he, _, _, hcell⟩ := HL.out.row.at (by rw [← HN.out]; omega)
      injection he with h1 h2 h3
      subst h1
      obtain ⟨d0, _, _⟩ := evCells_get hev
      have f0 := hcell _ _ d0
      have HEV := Lib.hid hev
      clear hcell d0 h2 h3 hev
      by_cases ht : ev.x.tag = t
      · have hk : ((ev.x.tag : Int) == (t : Int)) = true := by rw [ht]; simp
        have HT := Lib.hid ht
        clear ht
        go_wp2_with fail
        go_ret
        exact ⟨HB.out, .inr ⟨i, ev, rfl, HEV.out, getT_ev HU.out (List.mem_of_getElem? HEV.out) HT.out⟩⟩
      · have hk : ((ev.x.tag : Int) == (t : Int)) = false := by simp; omega
        have HT := Lib.hid ht
        clear ht
        go_wp2_with fail
        go_roundg (gk - 1)
        case measure => have := HI.out; omega
        case rel => exact ⟨i + 1, by have := HI.out; omega, by go_num, rfl, fun j ev' hj he' => by
          rcases Nat.lt_or_ge j i with h | h
          · exact HNO.out j ev' h he'
          · obtain rfl : j = i := by omega
            rw [HEV.out] at he'
            cases he'
            exact HT.out⟩
    · obtain rfl : i = n := by omega
      go_wp2_with fail
      go_ret
      exact ⟨HB.out, .inl ⟨rfl, getT_nil (fun ev hev => by
        obtain ⟨j, hj⟩ := List.mem_iff_getElem?.1 hev
        exact HNO.out j ev (by have := (List.getElem?_eq_some_iff.1 hj).1; rw [← HN.out] at this; exact this) hj)⟩⟩
set_option maxHeartbeats 4000000 in
set_option maxRecDepth 100000 in
theorem rof_any {w : World} {v : Value} {E : List Ev} (hl : ListAt w v E) (hu : TUp (unE E)) (gr now last : Int) (t : Nat) :
    Calls Try.prog 43 #[mV gr now last v, .int .i64 (t : Int)] w (CpP w t (knownP t (unE E)).hard (knownP t (unE E)).soft) := by
  obtain ⟨p, cap, rfl, _⟩ := hl.row.form
  have hb := ((Below.refl w.heap.size w).alloc (Nat.le_refl _) (.cells #[.int .u64 gr, .int .u64 now, .int .u64 last, .slice p E.length cap] 57)).alloc (by simp) (.cells #[.int .i64 0, .int .u64 0, .slice none 0 0] 43)
  have hx := Blk.alloc (Blk.new w 57 #[.int .u64 gr, .int .u64 now, .int .u64 last, .slice p E.length cap]) (.cells #[.int .i64 0, .int .u64 0, .slice none 0 0] 43)
  have hy := Blk.new (w.alloc (.cells #[.int .u64 gr, .int .u64 now, .int .u64 last, .slice p E.length cap] 57)) 43 #[.int .i64 0, .int .u64 0, .slice none 0 0]
  rw [show (w.alloc (.cells #[.int .u64 gr, .int .u64 now, .int .u64 last, .slice p E.length cap] 57)).heap.size = w.heap.size + 1 by simp] at hy
  have HF := Lib.hid (rfind_any (hl.below hb) hu gr now last t)
  have HL := Lib.hid (hl.below hb)
  have HB := Lib.hid hb
  have HX := Lib.hid hx
  have HY := Lib.hid hy
  have hs := hl.small.1
  clear hl hb hx hy
  obtain ⟨P, hP⟩ : ∃ P, P = knownP t (unE E) := ⟨_, rfl⟩
  rw [← hP]
  have HP := Lib.hid hP
  clear hP
  obtain ⟨W, hW⟩ : ∃ W, W = (w.alloc (.cells #[.int .u64 gr, .int .u64 now, .int .u64 last, .slice p E.length cap] 57)).alloc (.cells #[.int .i64 0, .int .u64 0, .slice none 0 0] 43) := ⟨_, rfl⟩
  rw [← hW] at HL HB HX HY HF
  have HW := Lib.hid hW
  clear hW
  go_enter Try.func43, Try.ntmps43
  go_wp2_with fail
  rw [← HW.out]
  refine HF.out.mono ?_
  rintro e w1 ⟨b1, hc⟩
  have hx1 := HX.out.below b1 HX.out.lt
  have hy1 := HY.out.below b1 HY.out.lt
  have HL1 := Lib.hid (HL.out.below b1)
  have HB1 := Lib.hid (HB.out.trans (b1.mono HB.out.size))
  have HY1 := Lib.hid hy1
  have x3 := hx1.cell 3
  have y0 := hy1.cell 0
  have y1 := hy1.cell 1
  have y2 := hy1.cell 2
  have f1 := hy1.frozen
  simp only [List.getElem?_toArray, List.getElem?_cons_zero, List.getElem?_cons_succ] at x3 y0 y1 y2
  clear hx1 hy1 b1 HF HX HY HL HB HW
  rcases hc with ⟨rfl, hg⟩ | ⟨i, ev, rfl, hev, hg⟩
  · obtain rfl : P = ⟨0, []⟩ := by rw [HP.out]; unfold knownP; rw [hg]
    clear hg HP
    go_wp2_with fail
    have z := ((HY1.out.set_ 0 (.int .i64 (t : Int))).set_ 1 (.int .u64 0)).set_ 2 (.slice none 0 0)
    have e0 := z.cell 0
    have e1 := z.cell 1
    have e2 := z.cell 2
    simp only [List.setIfInBounds_toArray, List.set_cons_zero, List.set_cons_succ, List.getElem?_toArray, List.getElem?_cons_zero, List.getElem?_cons_succ] at e0 e1 e2
    have hO := ((Only.refl (fun x => x = w.heap.size + 1) w1).setCell1 (g := w.heap.size + 1) (.inl rfl) 0 (.int .i64 (t : Int))).setCell1 (g := w.heap.size + 1) (.inl rfl) 1 (.int .u64 0) |>.setCell1 (g := w.heap.size + 1) (.inl rfl) 2 (.slice none 0 0)
    refine bodyPost_ret (v := .agg #[.int .i64 (t : Int), .int .u64 0, .slice none 0 0]) (by simp [results, Try.results43, go_sem, e0, e1, e2]) rfl ⟨none, 0, w.heap.size, rfl, ⟨rfl, .inl ⟨rfl, rfl⟩⟩, Nat.le_refl _, HB1.out.trans (hO.below (fun g hg => by omega) HB1.out.size)⟩
  · have hk : P = ev.x.p := by rw [HP.out]; unfold knownP; rw [hg]
    have htag := (getT_mem hg).2
    clear hg HP
    have hlt : i < E.length := (List.getElem?_eq_some_iff.1 hev).1
    have hm := List.mem_of_getElem? hev
    obtain ⟨g, o, c, he, _, _, hcell⟩ := HL1.out.row.at (by omega)
    injection he with h1 h2 h3
    subst h1
    obtain ⟨d0, d1, d2⟩ := evCells_get hev
    have g0 := hcell _ _ d0
    have g1 := hcell _ _ d1
    have g2 := hcell _ _ d2
    rw [← Nat.add_assoc] at g1 g2
    have HS := Lib.hid (HL1.out.soft ev hm)
    have hsl := HL1.out.small.2 ev hm
    obtain ⟨⟨xt, ⟨ph, ps⟩⟩, xv⟩ := ev
    dsimp only at htag g0 g1 g2 HS hsl hk
    subst htag hk
    have HC := Lib.hid (rcopy_any xt ph HS.out (by omega))
    obtain ⟨n, hn⟩ : ∃ n, n = E.length := ⟨_, rfl⟩
    rw [← hn] at hlt hs x3 ⊢
    clear hn hev hm hcell d0 d1 d2 h2 h3
    go_wp2_with fail
    refine HC.out.mono ?_
    rintro e w2 ⟨q, c2, B, rfl, ow, hB, b2⟩
    have hy2 := HY1.out.below b2 HY1.out.lt
    have y0 := hy2.cell 0
    have y1 := hy2.cell 1
    have y2 := hy2.cell 2
    have f1 := hy2.frozen
    simp only [List.getElem?_toArray, List.getElem?_cons_zero, List.getElem?_cons_succ] at y0 y1 y2
    have HB2 := Lib.hid (HB1.out.trans (b2.mono HB1.out.size))
    have OW := Lib.hid ow
    have hyl := HY1.out.lt
    have HY2 := Lib.hid hy2
    clear hy2 b2 ow x3 g0 g1 g2 HC HS
    go_wp2_with fail
    have z := ((HY2.out.set_ 0 (.int .i64 (xt : Int))).set_ 1 (.int .u64 (ph : Int))).set_ 2 (.slice q ps.length c2)
    have e0 := z.cell 0
    have e1 := z.cell 1
    have e2 := z.cell 2
    simp only [List.setIfInBounds_toArray, List.set_cons_zero, List.set_cons_succ, List.getElem?_toArray, List.getElem?_cons_zero, List.getElem?_cons_succ] at e0 e1 e2
    have hO := ((Only.refl (fun x => x = w.heap.size + 1) w2).setCell1 (g := w.heap.size + 1) (.inl rfl) 0 (.int .i64 (xt : Int))).setCell1 (g := w.heap.size + 1) (.inl rfl) 1 (.int .u64 (ph : Int)) |>.setCell1 (g := w.heap.size + 1) (.inl rfl) 2 (.slice q ps.length c2)
    refine bodyPost_ret (v := .agg #[.int .i64 (xt : Int), .int .u64 (ph : Int), .slice q ps.length c2]) (by simp [results, Try.results43, go_sem, e0, e1, e2]) rfl ⟨q, c2, B, rfl, ownsRow_only OW.out hO (fun g hg hs => ?_), by have := HB1.out.size; omega, HB2.out.trans (hO.below (fun g hg => by omega) HB2.out.size)⟩
    have := (OW.out.lt g hg).1
    omega
def RFirP (w : World) (r : Nat × Bool) (e : Ending) (w' : World) : Prop := e = .returned (.tuple #[.int .u64 (r.1 : Int), .bool r.2]) ∧ Below w.heap.size w w'
set_option maxHeartbeats 4000000 in
set_option maxRecDepth 100000 in
theorem rfirst_any {w : World} {v : Value} {E : List Ev} (hl : ListAt w v E) (hu : TUp (unE E)) (gr now last : Int) (t since : Nat) (hk : (knownP t (unE E)).soft.length ≤ 100000) :
    Calls Try.prog 44 #[mV gr now last v, .int .i64 (t : Int), .int .u64 (since : Int)] w (RFirP w (firstM since (knownP t (unE E)).soft)) := by
  obtain ⟨p, cap, rfl, _⟩ := hl.row.form
  have hb := (Below.refl w.heap.size w).alloc (Nat.le_refl _) (.cells #[.int .u64 gr, .int .u64 now, .int .u64 last, .slice p E.length cap] 57)
  have HF := Lib.hid (rof_any (hl.below hb) hu gr now last t)
  have HB := Lib.hid hb
  clear hl hb hu
  generalize knownP t (unE E) = P at *
  obtain ⟨ph, ps⟩ := P
  dsimp only at hk HF ⊢
  obtain ⟨R, hR⟩ : ∃ R, R = firstM since ps := ⟨_, rfl⟩
  rw [← hR]
  have HR := Lib.hid hR
  clear hR
  go_enter Try.func44, Try.ntmps44
  go_wp2_with fail
  refine HF.out.mono ?_
  rintro e w1 ⟨q, c, B, rfl, ow, hB, b1⟩
  have hx := Blk.new w1 43 #[.int .i64 (t : Int), .int .u64 (ph : Int), .slice q ps.length c]
  have hb1 := (Below.refl w1.heap.size w1).alloc (Nat.le_refl _) (.cells #[.int .i64 (t : Int), .int .u64 (ph : Int), .slice q ps.length c] 43)
  have HS := Lib.hid ((RowAt.of_own ow).below hb1)
  have HX := Lib.hid hx
  have HB1 := Lib.hid ((HB.out.trans (b1.mono HB.out.size)).trans (hb1.mono (Nat.le_trans HB.out.size b1.size)))
  have HWS := Lib.hid (show w.heap.size ≤ w1.heap.size from Nat.le_trans HB.out.size b1.size)
  clear HF HB ow b1 hx hb1
  obtain ⟨A, hA⟩ : ∃ A, A = w1.heap.size := ⟨_, rfl⟩
  rw [← hA] at HX
  have HA := Lib.hid hA
  clear hA
  obtain ⟨W, hW⟩ : ∃ W, W = w1.alloc (.cells #[.int .i64 (t : Int), .int .u64 (ph : Int), .slice q ps.length c] 43) := ⟨_, rfl⟩
  rw [← hW] at HX HS HB1
  have HW := Lib.hid hW
  clear hW
  go_wp2_with fail
  rw [← HW.out, ← HA.out]
  go_loopg [9] ps.length (fun r s9 wr => ∃ i : Nat, r + i = ps.length ∧ s9 = .int .i64 (i : Int) ∧ firstM since (ps.drop i) = R ∧ wr = W)
  case atStart => exact ⟨0, rfl, rfl, by rw [List.drop_zero]; exact HR.out.symm, rfl⟩
  case round =>
    obtain ⟨i, hq, rfl, hf, rfl⟩ := hrel
    have HQ := Lib.hid hq
    have hil : i ≤ ps.length := by omega
    have x2 := HX.out.cell 2
    simp only [List.getElem?_toArray, List.getElem?_cons_zero, List.getElem?_cons_succ] at x2
    clear hq HR
    by_cases hlt : i < ps.length
    · obtain ⟨y, hy⟩ : ∃ y, ps[i]? = some y := ⟨ps[i], List.getElem?_eq_getElem hlt⟩
      obtain ⟨gs, o, cap', he, _, hgl, hcell⟩ := HS.out.at (by show 0 < ps.length; omega)
      injection he with he1 he2 he3
      subst he1 he3
      obtain ⟨d0, d1⟩ := softCells_get hy
      have e0 := hcell _ _ d0
      have e1 := hcell _ _ d1
      have hdr : ps.drop i = y :: ps.drop (i + 1) := by
        rw [List.drop_eq_getElem_cons hlt]
        congr 1
        rw [List.getElem?_eq_getElem hlt] at hy
        exact Option.some.inj hy
      rw [hdr, firstM_cons] at hf
      rw [← Nat.add_assoc] at e1
      clear he2 d0 d1 hcell hdr hy
      by_cases hs : since < y.st
      · rw [if_pos hs] at hf
        have HF := Lib.hid hf
        clear hf
        go_wp2_with fail
        refine bodyPost_ret (v := .tuple #[.int .u64 (y.tm : Int), .bool true]) (by simp [results, Try.results44, go_sem]) rfl ⟨by rw [← HF.out], HB1.out⟩
      · rw [if_neg hs] at hf
        have HF := Lib.hid hf
        clear hf
        go_wp2_with fail
        go_roundg (gk - 1)
        case measure => have := HQ.out; omega
        case rel => exact ⟨i + 1, by have := HQ.out; omega, by go_num, HF.out, rfl⟩
    · obtain rfl : i = ps.length := by omega
      rw [List.drop_length] at hf
      have HF := Lib.hid hf
      clear hf
      go_wp2_with fail
      refine bodyPost_ret (v := .tuple #[.int .u64 0, .bool false]) (by simp [results, Try.results44, go_sem]) rfl ⟨by rw [← HF.out]; rfl, HB1.out⟩
end Go.Proofs.Ytckdfnlleaifcaa
