/- Lists of counts: IDs, lists, and the reference's raise. -/
import Derived.Test.YtjiefmihodfgpaaDoorStatD
import Derived.Test.YtjiefmihodfgpaaDoorSlc
namespace Go.Proofs.YtjiefmihodfgpaaDoor
set_option linter.unusedVariables false
open Go.RowKit Go.Maps Go.Sort

abbrev u64s (l : List Int) : List Value := l.map (Value.int .u64)
theorem u64s_get {l : List Int} {i : Nat} {x : Int} (h : l[i]? = some x) : (u64s l)[i]? = some (.int .u64 x) := by rw [List.getElem?_map, h]; rfl
theorem one_u64s (l : List Int) : ∀ u ∈ u64s l, u.oneCell' = true := by
  intro u hu
  obtain ⟨x, _, rfl⟩ := List.mem_map.1 hu
  rfl
theorem alike_l {α : Type} {x y : List α} {k : Nat} (h : ∀ i, i < k → x[i]? = y[i]?) (e : x[k]? = y[k]?) : Hid (∀ i, i < k + 1 → x[i]? = y[i]?) := fun i hi => by
  rcases Nat.lt_succ_iff_lt_or_eq.1 hi with h1 | h1
  · exact h i h1
  · rw [h1]; exact e

set_option maxHeartbeats 1000000 in
theorem ids_any (va vb : Value) (la lb : List Int) (w : World) (ha : Reads w va (u64s la)) (hb : Reads w vb (u64s lb)) :
    Calls Tryd.prog 20 #[va, vb] w fun e w' => e = .returned (.bool (decide (la = lb))) ∧ Below w.heap.size w w' := by
  obtain ⟨pa, ca, rfl, hla, ha2⟩ := ha
  obtain ⟨pb, cb, rfl, hlb, hb2⟩ := hb
  simp only [List.length_map] at *
  by_cases hl : la.length = lb.length
  · have hne : ∀ k, k < la.length → (h : la[k]? ≠ lb[k]?) → decide (la = lb) = false := fun k hk h => by
      rw [decide_eq_false_iff_not]; intro e; rw [e] at h; exact h rfl
    have heq : (∀ i, i < la.length → la[i]? = lb[i]?) → decide (la = lb) = true := fun h => decide_eq_true (list_eq_of hl h)
    have HNE := Lib.hid hne
    have HEQ := Lib.hid heq
    have HL := Lib.hid hl
    clear hne heq
    rw [← hl] at hb2 hlb ⊢
    clear hl
    rcases ha2 with h0 | ⟨blka, offa, rfl, hba, hca, hcella⟩
    · have HZ := Lib.hid (HEQ.out (fun i hi => by omega))
      rw [h0]
      go_enter Tryd.func20, Tryd.ntmps20
      go_wp2
      go_rounds 1
      go_ret
      rw [HZ.out]
      exact ⟨rfl, Below.refl _ _⟩
    · rcases hb2 with h0 | ⟨blkb, offb, rfl, hbb, hcb, hcellb⟩
      · have HZ := Lib.hid (HEQ.out (fun i hi => by omega))
        rw [h0]
        go_enter Tryd.func20, Tryd.ntmps20
        go_wp2
        go_rounds 1
        go_ret
        rw [HZ.out]
        exact ⟨rfl, Below.refl _ _⟩
      · have HCA := Lib.hid hcella
        have HCB := Lib.hid hcellb
        clear hcella hcellb
        go_enter Tryd.func20, Tryd.ntmps20
        go_wp2
        go_loopw [5] (fun v wr => ∃ k : Nat, k ≤ la.length ∧ v = .int .i64 k ∧ Hid (∀ i, i < k → la[i]? = lb[i]?) ∧ Below w.heap.size w wr) (fun v _ => la.length - (intOf v).toNat)
        case atStart => exact ⟨0, by omega, rfl, fun i h => absurd h (Nat.not_lt_zero _), Below.refl _ _⟩
        case round =>
          obtain ⟨k, hk, rfl, HA, hbl⟩ := hrel
          by_cases hlt : k < la.length
          · obtain ⟨x, hx⟩ : ∃ x, la[k]? = some x := ⟨la[k], List.getElem?_eq_getElem hlt⟩
            obtain ⟨y, hy⟩ : ∃ y, lb[k]? = some y := ⟨lb[k]'(by have := HL.out; omega), List.getElem?_eq_getElem (by have := HL.out; omega)⟩
            have gx : wr.cell? ⟨blka, offa + k, none⟩ = some (.int .u64 x) := by
              rw [hbl.cell (p := ⟨blka, offa + k, none⟩) hba]; exact HCA.out k _ (u64s_get hx)
            have gy : wr.cell? ⟨blkb, offb + k, none⟩ = some (.int .u64 y) := by
              rw [hbl.cell (p := ⟨blkb, offb + k, none⟩) hbb]; exact HCB.out k _ (u64s_get hy)
            rcases Bool.eq_false_or_eq_true (x == y) with e | e
            · have HE := Lib.hid (show la[k]? = lb[k]? by rw [hx, hy, beq_iff_eq.1 e])
              clear hx hy
              go_wp2
              go_quiet (fail)
              go_wp2
              go_roundw
              case rel => exact ⟨k + 1, by omega, by go_num, alike_l HA.out HE.out, below_drewN hbl _⟩
              case measure => simp [intOf]; omega
            · have HE := Lib.hid (HNE.out k hlt (by rw [hx, hy]; simpa using e))
              clear hx hy
              go_wp2
              go_quiet (fail)
              go_wp2
              go_ret
              rw [HE.out]
              exact ⟨rfl, below_drewN hbl _⟩
          · have e : k = la.length := by omega
            have HA' := HA.out
            rw [e] at HA'
            have HE := Lib.hid (HEQ.out HA')
            clear HA HA'
            go_wp2
            go_ret
            rw [HE.out]
            exact ⟨rfl, hbl⟩
  · have HD := Lib.hid (show decide (la = lb) = false from decide_eq_false (fun e => hl (by rw [e])))
    have h1 : ((la.length : Int) == (lb.length : Int)) = false := by rw [beq_eq_false_iff_ne]; omega
    clear hl ha2 hb2
    go_enter Tryd.func20, Tryd.ntmps20
    go_wp2
    go_ret
    rw [HD.out]
    exact ⟨rfl, Below.refl _ _⟩

set_option maxHeartbeats 1000000 in
/-- lists: whether a list and an error are the wanted ones; the list, of the call's own, is spent. -/
theorem lists_any (B : Nat) (v vw : Value) (l lw : List Int) (e c : Int) (w : World) (hB : B ≤ w.heap.size) (hl : l.length ≤ 140737488355328) (hown : w.ownsRow B 27 1 v l.length (u64s l)) (hw : Reads w vw (u64s lw)) :
    Calls Tryd.prog 29 #[v, .int .i64 e, vw, .int .i64 c] w fun e' w' => e' = .returned (.bool (decide (l = lw) && e == c)) ∧ Below B w w' ∧ w.grownBy w' v.ownBlock := by
  have hr : Reads w v (u64s l) := Reads.of_own (base := B) (e := 27) (by rw [List.length_map]; exact hown) (by rw [List.length_map]; exact hl)
  obtain ⟨pv, cv, rfl⟩ : ∃ pv cv, v = .slice pv l.length cv := by
    obtain ⟨p, c, h, _⟩ := hr
    rw [List.length_map] at h
    exact ⟨p, c, h⟩
  have HI : Hid (Calls Tryd.prog 20 #[.slice pv l.length cv, vw] w fun e w' => e = .returned (.bool (decide (l = lw))) ∧ Below w.heap.size w w') := ids_any _ vw l lw w hr hw
  have hx : ∃ xs : List Int, w.ownsRow B 27 1 (.slice pv l.length cv) l.length (u64s xs) := ⟨l, hown⟩
  clear hr hw hown
  generalize decide (l = lw) = D at *
  generalize l.length = N at *
  obtain ⟨R, hR⟩ : ∃ R, (D && e == c) = R := ⟨_, rfl⟩
  rw [hR]
  obtain ⟨xs0, hx0⟩ := hx
  have HX0 := Lib.hid hx0
  clear hx0
  go_enter Tryd.func29, Tryd.ntmps29
  go_wp2_with fail
  refine HI.out.mono ?_
  rintro e' w1 ⟨rfl, b1⟩
  have hx1 := ownsRow_below HX0.out b1
  have b2 := b1.mono hB
  have gr0 := only_of_below b1 (Value.slice pv N cv).ownBlock
  clear b1 HI HX0
  have hR2 : D = true ∧ (e == c) = R ∨ D = false ∧ R = false := by
    cases D with
    | true => exact .inl ⟨rfl, by simpa using hR⟩
    | false => exact .inr ⟨rfl, by simpa using hR.symm⟩
  clear hR
  rcases hR2 with ⟨rfl, hR⟩ | ⟨rfl, rfl⟩
  all_goals
    go_wp2_with fail
    go_loopw [10] (fun i wr => ∃ (k : Nat) (xs : List Int), k ≤ N ∧ i = .int .i64 k ∧ wr.ownsRow B 27 1 (.slice pv N cv) N (u64s xs) ∧ Below B w wr ∧ w.grownBy wr (Value.slice pv N cv).ownBlock) (fun i _ => N - (intOf i).toNat)
    case atStart => exact ⟨0, xs0, by omega, rfl, hx1, b2, gr0⟩
    case round =>
      obtain ⟨k, xs, hk, rfl, hown, hbl, hgr0⟩ := hrel
      clear hx1 b2 gr0
      by_cases hlt : k < N
      · obtain ⟨g, cap, he, hbg, hgs⟩ := hown.form (by omega)
        injection he with e1 e2 e3
        subst e1 e3
        have hlen : xs.length = N := by have := hown.1; rwa [Nat.mul_one, List.length_map] at this
        obtain ⟨x, hx⟩ : ∃ x, xs[k]? = some x := ⟨xs[k], List.getElem?_eq_getElem (by omega)⟩
        have hcell : wr.cell? ⟨g, k, none⟩ = some (.int .u64 x) := by
          rw [hown.cellAt k (by omega)]
          exact u64s_get hx
        have hfz := hown.frozenAt k
        obtain ⟨hown', hgr⟩ := hown.stored k (.int .u64 (IntKind.u64.wrap (x + 1)))
        have hbl' := hbl.setCell (p := ⟨g, k, none⟩) hbg (.int .u64 (IntKind.u64.wrap (x + 1)))
        have hown'' : (wr.setCell ⟨g, k, none⟩ (.int .u64 (IntKind.u64.wrap (x + 1)))).ownsRow B 27 1 (.slice (some ⟨g, 0, none⟩) N cv) N (u64s (xs.set k (IntKind.u64.wrap (x + 1)))) := by
          unfold u64s; rw [List.map_set]; exact hown'
        have hgr1 := only_trans hgr0 hgr
        clear hlen hown hbl hgr e2 hown' hx hgr0
        go_wp2
        go_roundw
        case rel => exact ⟨k + 1, _, by omega, by go_num, hown'', hbl', hgr1⟩
        case measure => simp [intOf]; omega
      · clear hown
        go_wp2
        go_ret
        exact ⟨rfl, hbl, hgr0⟩
end Go.Proofs.YtjiefmihodfgpaaDoor
