/- SameAll; first and of of the law; the law's own state. -/
import Derived.Test.YtckdfnlleaifcaaStmJ
namespace Go.Proofs.Ytckdfnlleaifcaa
set_option linter.unusedVariables false
open Go.RowKit Go.Maps Go.Sort

/-- The slice v reads as a list of what is known. -/
structure ListAt (w : World) (v : Value) (E : List Ev) : Prop where
  row : RowAt w 3 v E.length (evCells E)
  soft : ∀ e ∈ E, SoftAt w e.v e.x.p.soft
  small : E.length ≤ 100000 ∧ ∀ e ∈ E, e.x.p.soft.length ≤ 100000
theorem ListAt.below {w w' : World} {v : Value} {E : List Ev} (h : ListAt w v E) (hb : Below w.heap.size w w') : ListAt w' v E := ⟨h.row.below hb, fun e he => (h.soft e he).below hb, h.small⟩
theorem ListAt.only {w w' : World} {v : Value} {E : List Ev} {S : Nat → Prop} (h : ListAt w v E) (ho : Only S w w') (h1 : ∀ z, v.ownBlock = some z → ¬ S z) (h2 : ∀ e ∈ E, ∀ z, e.v.ownBlock = some z → ¬ S z) : ListAt w' v E :=
  ⟨h.row.only ho h1, fun e he => (h.soft e he).only ho (h2 e he), h.small⟩
theorem unE_get {E1 E2 : List Ev} (h : unE E1 = unE E2) {i : Nat} {e1 e2 : Ev} (h1 : E1[i]? = some e1) (h2 : E2[i]? = some e2) : e1.x = e2.x := by
  have a : (unE E1)[i]? = some e1.x := by unfold unE; rw [List.getElem?_map, h1]; rfl
  have b : (unE E2)[i]? = some e2.x := by unfold unE; rw [List.getElem?_map, h2]; rfl
  rw [h, b] at a
  exact (Option.some.inj a).symm
theorem unE_len {E1 E2 : List Ev} (h : unE E1 = unE E2) : E1.length = E2.length := by
  have := congrArg List.length h
  unfold unE at this
  simpa using this
set_option maxHeartbeats 4000000 in
set_option maxRecDepth 100000 in
theorem sameAll_any {w : World} {v1 v2 : Value} {E1 E2 : List Ev} (h1 : ListAt w v1 E1) (h2 : ListAt w v2 E2) (he : unE E1 = unE E2) :
    Calls Try.prog 34 #[v1, v2] w fun e w' => e = .returned (.bool true) ∧ Below w.heap.size w w' := by
  obtain ⟨p1, c1, hv1, hc1⟩ := h1.row.form
  obtain ⟨p2, c2, hv2, hc2⟩ := h2.row.form
  subst hv1
  subst hv2
  have hlen := unE_len he
  have HR1 := Lib.hid h1
  have HR2 := Lib.hid h2
  have HE := Lib.hid he
  obtain ⟨n, hn⟩ : ∃ n, n = E1.length := ⟨_, rfl⟩
  have hs := h1.small.1
  rw [← hn] at hs
  rw [← hlen, ← hn]
  have HN := Lib.hid hn
  have HL := Lib.hid hlen
  clear h1 h2 he hlen hn
  go_enter Try.func34, Try.ntmps34
  go_wp2_with fail
  go_loopg [5] n (fun q s5 wr => ∃ i : Nat, q + i = n ∧ s5 = .int .i64 (i : Int) ∧ Below w.heap.size w wr)
  case atStart => exact ⟨0, rfl, rfl, Below.refl _ _⟩
  case round =>
    obtain ⟨i, hq, rfl, hbr⟩ := hrel
    have HQ := Lib.hid hq
    have hil : i ≤ n := by omega
    have HBR := Lib.hid hbr
    clear hq
    by_cases hlt : i < n
    · have hi1 : i < E1.length := by rw [← HN.out]; exact hlt
      have hi2 : i < E2.length := by rw [← HL.out, ← HN.out]; exact hlt
      obtain ⟨a, ha⟩ : ∃ a, E1[i]? = some a := ⟨E1[i], List.getElem?_eq_getElem hi1⟩
      obtain ⟨b, hb⟩ : ∃ b, E2[i]? = some b := ⟨E2[i], List.getElem?_eq_getElem hi2⟩
      have hx := unE_get HE.out ha hb
      obtain ⟨g1, o1, cc1, he1, _, _, hcell1⟩ := (HR1.out.row.below hbr).at (by omega)
      obtain ⟨g2, o2, cc2, he2, _, _, hcell2⟩ := (HR2.out.row.below hbr).at (by omega)
      injection he1 with e1 e2 e3
      injection he2 with e4 e5 e6
      subst e1 e3 e4 e6
      obtain ⟨d0, d1, d2⟩ := evCells_get ha
      obtain ⟨d3, d4, d5⟩ := evCells_get hb
      have f0 := hcell1 _ _ d0
      have f1 := hcell1 _ _ d1
      have f2 := hcell1 _ _ d2
      have f3 := hcell2 _ _ d3
      have f4 := hcell2 _ _ d4
      have f5 := hcell2 _ _ d5
      rw [← Nat.add_assoc] at f1 f2 f4 f5
      have ham := List.mem_of_getElem? ha
      have hbm := List.mem_of_getElem? hb
      have HSA := Lib.hid ((HR1.out.soft a ham).below hbr)
      have HSB := Lib.hid ((HR2.out.soft b hbm).below hbr)
      have hsl := HR1.out.small.2 a ham
      obtain ⟨ax, av⟩ := a
      obtain ⟨bx, bv⟩ := b
      dsimp only at hx f0 f1 f2 f3 f4 f5 hsl
      subst hx
      obtain ⟨xt, ph, ps⟩ := ax
      dsimp only at f0 f1 f2 f3 f4 f5 hsl HSA HSB
      have HC := Lib.hid (fun j : Nat => same_any (w := wr.drewN j) (v1 := av) (v2 := bv) (s := ps) (xt : Int) (ph : Int) (HSA.out.below (below_drewN (Below.refl _ _) j)) (HSB.out.below (below_drewN (Below.refl _ _) j)) (by omega))
      clear e2 e5 d0 d1 d2 d3 d4 d5 hcell1 hcell2 hbr ha hb ham hbm hi1 hi2 HSA HSB
      go_wp2_with fail
      go_still_tail 8, (by kernel_rfl)
      change wpList _ _ _ _ _ wr.drew
      clear f0 f1 f2 f3 f4 f5
      go_wp2_with fail
      refine (HC.out 1).mono ?_
      rintro e w3 ⟨rfl, b3⟩
      have HB3 := Lib.hid (HBR.out.trans ((show Below wr.heap.size wr w3 from (below_drewN (Below.refl wr.heap.size wr) 1).trans b3).mono HBR.out.size))
      clear HC b3
      go_wp2_with fail
      go_roundg (gk - 1)
      case measure => have := HQ.out; omega
      case rel => exact ⟨i + 1, by have := HQ.out; omega, by go_num, HB3.out⟩
    · obtain rfl : i = n := by omega
      clear hbr
      go_wp2_with fail
      go_ret
      exact ⟨rfl, HBR.out⟩
set_option maxHeartbeats 1000000 in
set_option maxRecDepth 100000 in
theorem first_law {w : World} {g gr now last n : Nat} {d : List Tg} {O : Nat → Prop} (h : St w g gr now last n d O) (t : Nat) (ht : t < 65536) (hn : n ≤ 100000) (since : Nat) (r : Nat × Bool) (hr : firstM since (knownP t d).soft = r) :
    Calls Try.prog 27 #[.pointer (some ⟨g, 0, none⟩), .int .i64 (t : Int), .int .u64 (since : Int), .int .u64 (r.1 : Int), .bool r.2, .int .i64 0] w fun e w' => e = .returned (.bool true) ∧ St w' g gr now last n d O ∧ Only O w w' := by
  have HF := Lib.hid (first_ok h t ht hn since)
  rw [hr] at HF
  obtain ⟨r1, r2⟩ := r
  clear h hr
  go_enter Try.func27, Try.ntmps27
  go_wp2_with fail
  refine HF.out.mono ?_
  rintro e w1 ⟨rfl, s1, o1⟩
  have S1 := Lib.hid s1
  have O1 := Lib.hid o1
  clear HF s1 o1
  dsimp only
  cases r2
  all_goals
    go_wp2_with fail
    go_ret
    exact ⟨rfl, S1.out, O1.out⟩
set_option maxHeartbeats 1000000 in
set_option maxRecDepth 100000 in
theorem of_law {w : World} {g gr now last n : Nat} {d : List Tg} {O : Nat → Prop} (h : St w g gr now last n d O) (t : Nat) (ht : t < 65536) (hn : n ≤ 100000) (p : Pg) (hp : knownP t d = p) (v : Value) (hv : SoftAt w v p.soft) (hvO : ∀ z, v.ownBlock = some z → ¬ O z) :
    Calls Try.prog 19 #[.pointer (some ⟨g, 0, none⟩), .int .i64 (t : Int), .agg #[.int .i64 (t : Int), .int .u64 (p.hard : Int), v], .int .i64 0] w fun e w' => e = .returned (.bool true) ∧ St w' g gr now last n d O ∧ Only O w w' := by
  have hsl : p.soft.length ≤ 100000 := by
    obtain ⟨_, _, _, h4⟩ := h.lok
    rw [← hp]
    unfold knownP
    cases hx : getT t d with
    | none => exact Nat.zero_le _
    | some x => exact Nat.le_trans (h4 x (getT_mem hx).1) hn
  obtain ⟨vp, vc, hvv, _⟩ := hv.form
  subst hvv
  have hb := (Below.refl w.heap.size w).alloc (Nat.le_refl _) (.cells #[.int .i64 (t : Int), .int .u64 (p.hard : Int), .slice vp p.soft.length vc] 43)
  have hx := Blk.new w 43 #[.int .i64 (t : Int), .int .u64 (p.hard : Int), .slice vp p.soft.length vc]
  have h1 := h.below hb
  have HF := Lib.hid (of_ok h1 t ht hn)
  rw [hp] at HF
  have HOL := Lib.hid (fun x (hx : O x) => h.lt hx)
  have HV := Lib.hid (hv.below hb)
  have HX := Lib.hid hx
  have HB := Lib.hid hb
  have HVO := Lib.hid hvO
  obtain ⟨ph, ps⟩ := p
  dsimp only at *
  generalize hW : w.alloc (.cells #[.int .i64 (t : Int), .int .u64 (ph : Int), .slice vp ps.length vc] 43) = W at *
  have HW := Lib.hid hW
  have hzl : w.heap.size < W.heap.size := hx.lt
  clear h hp hv hvO hb hx h1 hW
  go_enter Try.func19, Try.ntmps19
  go_wp2_with fail
  rw [HW.out]
  go_wp2_with fail
  refine HF.out.mono ?_
  rintro e w1 ⟨v2, B2, rfl, ow, hB2, s1, o1⟩
  have HOO := Lib.hid o1
  have hx1 := HX.out.only o1 (fun e => by have := HOL.out _ e; omega)
  have hv1 := HV.out.only o1 HVO.out
  have hb1 := (Below.refl w1.heap.size w1).alloc (Nat.le_refl _) (.cells #[.int .i64 (t : Int), .int .u64 (ph : Int), v2] 43)
  obtain ⟨p2, c2, hv2⟩ := own_form ow
  subst hv2
  have HC := Lib.hid (same_any (t : Int) (ph : Int) ((RowAt.of_own ow).below hb1) (hv1.below hb1) (by show ps.length ≤ _; omega))
  have y0 := (hx1.below hb1 hx1.lt).cell 0
  have y1 := (hx1.below hb1 hx1.lt).cell 1
  have y2 := (hx1.below hb1 hx1.lt).cell 2
  have S1 := Lib.hid s1
  have HB1 := Lib.hid hb1
  clear HF HV HX ow s1 o1 hx1 hv1 hb1 hB2
  unfold stV
  go_wp2_with fail
  refine HC.out.mono ?_
  rintro e w3 ⟨rfl, b3⟩
  have HB3 := Lib.hid b3
  clear HC b3 y0 y1 y2
  go_wp2_with fail
  go_ret
  exact ⟨rfl, St.below (St.below S1.out HB1.out) HB3.out, (((Only.of_below HB.out O).trans HOO.out (fun z hz => .inl hz)).trans (Only.of_below HB1.out (fun _ => False)) (fun _ h => h.elim)).trans (Only.of_below HB3.out (fun _ => False)) (fun _ h => h.elim)⟩
end Go.Proofs.Ytckdfnlleaifcaa
