/- Contracts of Same, list and one. -/
import Derived.Test.YtbcfbdkacnnkgaaDoorKeyA
import Derived.Test.YtbcfbdkacnnkgaaDoorStrs
namespace Go.Proofs.YtbcfbdkacnnkgaaDoor
set_option linter.unusedVariables false
open Go.ChangeShapes Go.WideShapes Go.ChangeAt Go.RowKit

theorem alike_lists {α : Type} {x y : List α} {k : Nat} (h : ∀ i, i < k → x[i]? = y[i]?) (e : x[k]? = y[k]?) : Hid (∀ i, i < k + 1 → x[i]? = y[i]?) := fun i hi => by
  rcases Nat.lt_succ_iff_lt_or_eq.1 hi with h1 | h1
  · exact h i h1
  · rw [h1]; exact e

set_option maxHeartbeats 1000000 in
theorem refSame_any (va vb : Value) (la lb : List Bs) (w : World) (ha : Reads w va (la.map encStr)) (hb : Reads w vb (lb.map encStr)) :
    Calls Tryd.prog 31 #[va, vb] w fun e w' => e = .returned (.bool (decide (la = lb))) ∧ Below w.heap.size w w' := by
  obtain ⟨pa, ca, rfl, hla, ha2⟩ := ha
  obtain ⟨pb, cb, rfl, hlb, hb2⟩ := hb
  simp only [List.length_map] at *
  by_cases hl : la.length = lb.length
  · have hne : ∀ k, k < la.length → (h : la[k]? ≠ lb[k]?) → decide (la = lb) = false := fun k hk h => by
      rw [decide_eq_false_iff_not]; intro e; rw [e] at h; exact h rfl
    have heq : (∀ i, i < la.length → la[i]? = lb[i]?) → decide (la = lb) = true := fun h => decide_eq_true (list_eq_of hl h)
    have HNE := Lib.hid hne
    have HEQ := Lib.hid heq
    have HL := Lib.hid hl
    clear hne heq
    rw [← hl] at hb2 hlb ⊢
    clear hl
    rcases ha2 with h0 | ⟨blka, offa, rfl, hba, hca, hcella⟩
    · have HZ := Lib.hid (HEQ.out (fun i hi => by omega))
      rw [h0]
      go_enter Tryd.func31, Tryd.ntmps31
      go_wp2
      go_rounds 1
      go_ret
      rw [HZ.out]
      exact ⟨rfl, Below.refl _ _⟩
    · rcases hb2 with h0 | ⟨blkb, offb, rfl, hbb, hcb, hcellb⟩
      · have HZ := Lib.hid (HEQ.out (fun i hi => by omega))
        rw [h0]
        go_enter Tryd.func31, Tryd.ntmps31
        go_wp2
        go_rounds 1
        go_ret
        rw [HZ.out]
        exact ⟨rfl, Below.refl _ _⟩
      · have HCA := Lib.hid hcella
        have HCB := Lib.hid hcellb
        clear hcella hcellb
        go_enter Tryd.func31, Tryd.ntmps31
        go_wp2
        go_loopw [5] (fun v wr => ∃ k : Nat, k ≤ la.length ∧ v = .int .i64 k ∧ Hid (∀ i, i < k → la[i]? = lb[i]?) ∧ Below w.heap.size w wr) (fun v _ => la.length - (intOf v).toNat)
        case atStart => exact ⟨0, by omega, rfl, fun i h => absurd h (Nat.not_lt_zero _), Below.refl _ _⟩
        case round =>
          obtain ⟨k, hk, rfl, HA, hbl⟩ := hrel
          by_cases hlt : k < la.length
          · obtain ⟨x, hx⟩ : ∃ x, la[k]? = some x := ⟨la[k], List.getElem?_eq_getElem hlt⟩
            obtain ⟨y, hy⟩ : ∃ y, lb[k]? = some y := ⟨lb[k]'(by have := HL.out; omega), List.getElem?_eq_getElem (by have := HL.out; omega)⟩
            have gx : wr.cell? ⟨blka, offa + k, none⟩ = some (.string ⟨x.toArray⟩) := by
              rw [hbl.cell (p := ⟨blka, offa + k, none⟩) hba]; exact HCA.out k _ (encStr_getElem la k x hx)
            have gy : wr.cell? ⟨blkb, offb + k, none⟩ = some (.string ⟨y.toArray⟩) := by
              rw [hbl.cell (p := ⟨blkb, offb + k, none⟩) hbb]; exact HCB.out k _ (encStr_getElem lb k y hy)
            rcases Bool.eq_false_or_eq_true (x == y) with e | e
            · have HE := Lib.hid (show la[k]? = lb[k]? by rw [hx, hy, beq_iff_eq.1 e])
              clear hx hy
              go_wp2
              go_quiet (fail)
              go_wp2
              go_roundw
              case rel => exact ⟨k + 1, by omega, by go_num, alike_lists HA.out HE.out, below_drewN hbl _⟩
              case measure => simp [intOf]; omega
            · have HE := Lib.hid (HNE.out k hlt (by rw [hx, hy]; simpa using e))
              clear hx hy
              go_wp2
              go_quiet (fail)
              go_wp2
              go_ret
              rw [HE.out]
              exact ⟨rfl, below_drewN hbl _⟩
          · have e : k = la.length := by omega
            have HA' := HA.out
            rw [e] at HA'
            have HE := Lib.hid (HEQ.out HA')
            clear HA HA'
            go_wp2
            go_ret
            rw [HE.out]
            exact ⟨rfl, hbl⟩
  · have HD := Lib.hid (show decide (la = lb) = false from decide_eq_false (fun e => hl (by rw [e])))
    have h1 : ((la.length : Int) == (lb.length : Int)) = false := by rw [beq_eq_false_iff_ne]; omega
    clear hl ha2 hb2
    go_enter Tryd.func31, Tryd.ntmps31
    go_wp2
    go_ret
    rw [HD.out]
    exact ⟨rfl, Below.refl _ _⟩
end Go.Proofs.YtbcfbdkacnnkgaaDoor
