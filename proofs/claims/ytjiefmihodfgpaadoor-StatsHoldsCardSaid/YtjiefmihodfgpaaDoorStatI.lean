/- Add and Sub of the reference. -/
import Derived.Test.YtjiefmihodfgpaaDoorStatH
import Derived.Deep.RegionHeld3
import Derived.Deep.AppendLies
namespace Go.Proofs.YtjiefmihodfgpaaDoor
set_option linter.unusedVariables false
open Go.RowKit Go.Maps Go.Sort

set_option maxHeartbeats 2000000 in
set_option maxRecDepth 100000 in
theorem refAdd_ok (va vb : Value) (a b : List Int) (ha : a.length = 16) (hb : b.length = 16) (hA : ∀ x ∈ a, isU x) (hB : ∀ x ∈ b, isU x) (w : World) (ra : Reads w va (u64s a)) (rb : Reads w vb (u64s b)) :
    Calls Tryd.prog 9 #[va, vb] w fun e w' => Gives w w' e ((addL a b, 0)) := by
  unfold Gives
  obtain ⟨b1, o1, c1, rfl, hb1, hc1⟩ := reads16 ra ha
  obtain ⟨b2, o2, c2, rfl, hb2, hc2⟩ := reads16 rb hb
  have HC1 := Lib.hid hc1
  have HC2 := Lib.hid hc2
  have HA := Lib.hid hA
  have HB := Lib.hid hB
  clear hc1 hc2 hA hB ra rb
  go_enter Tryd.func9, Tryd.ntmps9
  go_wp2_with fail
  go_loopw [6, 7] (fun v i wr => ∃ k : Nat, k ≤ 16 ∧ i = .int .i64 k ∧ wr.ownsRow w.heap.size 27 1 v k (u64s ((addL a b).take k)) ∧ Below w.heap.size w wr) (fun _ i _ => 16 - (intOf i).toNat)
  case atStart => exact ⟨0, by omega, rfl, World.ownsRow_nil _ _ _ _, Below.refl _ _⟩
  case round =>
    obtain ⟨k, hk, rfl, hown, hbl⟩ := hrel
    by_cases hlt : k < 16
    · obtain ⟨x, hx⟩ : ∃ x, a[k]? = some x := ⟨a[k], List.getElem?_eq_getElem (by omega)⟩
      obtain ⟨y, hy⟩ : ∃ y, b[k]? = some y := ⟨b[k], List.getElem?_eq_getElem (by omega)⟩
      have hux := HA.out x (List.mem_of_getElem? hx)
      have huy := HB.out y (List.mem_of_getElem? hy)
      have cx : wr.cell? ⟨b1, o1 + k, none⟩ = some (.int .u64 x) := by
        rw [hbl.cell (p := ⟨b1, o1 + k, none⟩) hb1]; exact HC1.out k _ hx
      have cy : wr.cell? ⟨b2, o2 + k, none⟩ = some (.int .u64 y) := by
        rw [hbl.cell (p := ⟨b2, o2 + k, none⟩) hb2]; exact HC2.out k _ hy
      have hz : (addL a b)[k]? = some (plus64 x y) := zip_get hx hy
      have HT : Hid (u64s ((addL a b).take (k + 1)) = u64s ((addL a b).take k) ++ [.int .u64 (plus64 x y)]) := by
        unfold u64s; rw [take_one _ k _ hz, List.map_append]; rfl
      have hk16 : (k : Int) < 16 := by omega
      obtain ⟨i0, hi, hz0, hz1, hz2⟩ := info_parts info_u64
      obtain ⟨hx1, hx2⟩ := hux
      have q2 : IntKind.u64.wrap (18446744073709551615 - x) = 18446744073709551615 - x := wraps_u64 _ (by omega) (by omega)
      have q3 := plus64_min (a := x) (b := y) ⟨hx1, hx2⟩ huy
      have hp := plus64_is (a := x) (b := y) ⟨hx1, hx2⟩ huy
      have q4 : IntKind.u64.wrap (plus64 x y) = plus64 x y := wraps_u64 _ hp.1 (by have := hp.2; omega)
      have HOWN := Lib.hid hown
      have HBL := Lib.hid hbl
      clear hown hx hy hz huy hbl
      go_wp2_with fail
      have hown1 : wr.drew.ownsRow w.heap.size 27 1 u6 k (u64s ((addL a b).take k)) := HOWN.out
      have hbl1 : Below w.heap.size w wr.drew := below_drewN HBL.out 1
      have hne1 : some b1 ≠ u6.ownBlock := fun e => by have := (HOWN.out.lt b1 e.symm).1; omega
      have hne2 : some b2 ≠ u6.ownBlock := fun e => by have := (HOWN.out.lt b2 e.symm).1; omega
      have hs1 := HBL.out.size
      go_region_held3 (fun w' => w'.cell? ⟨b1, o1 + k, none⟩ = some (.int .u64 x) ∧ w'.cell? ⟨b2, o2 + k, none⟩ = some (.int .u64 y))
        (first | go_keep | exact ⟨(World.cell?_of_block (hgrow.block b1 (by simp; omega) hne1)).trans (by go_keep), (World.cell?_of_block (hgrow.block b2 (by simp; omega) hne2)).trans (by go_keep)⟩)
        (first | (refine step_append_lies _ rfl (.tmp 20) (.tmp 36) 22 rfl w.heap.size 27 i0 (.int .u64 0) 1 8 Tryd.underlying22 hi hz0 hz1 hz2 rfl (by decide) u6 k (u64s ((addL a b).take k)) (by simp [Act.eval]) (hown1.alloc _) ⟨wr.heap.size, 0, none⟩ 1 1 [.int .u64 (plus64 x y)] (by simp [Act.eval]) rfl (cell_one_new _ _ _) (one_int _ _) (by decide) (by unfold maxLen; omega) (by omega) (by simp; omega) _ rfl ?_; intro g cap w1 hown' hgrow hat hlt))
      have hnew : w1.ownsRow w.heap.size 27 1 (.slice (some ⟨g, 0, none⟩) (k + 1) cap) (k + 1) (u64s ((addL a b).take (k + 1))) := by
        rw [HT.out]
        exact hown'
      have hbl2 := below_append (W1 := wr.drew) hbl1 hs1 hown1 hgrow
      clear hown' hgrow hown1 hbl1 hne1 hne2 hs1 HOWN HBL hat
      go_wp2_with fail
      go_roundw
      case rel => exact ⟨k + 1, by omega, by go_num, hnew, hbl2⟩
      case measure => simp [intOf]; omega
    · obtain rfl : k = 16 := by omega
      have hown2 : wr.ownsRow w.heap.size 27 1 u6 (addL a b).length (u64s (addL a b)) := by
        rw [List.take_of_length_le (by rw [addL_len ha hb]; decide)] at hown
        rw [addL_len ha hb]; exact hown
      have HOWN := Lib.hid hown2
      clear hown hown2
      go_wp2_with fail
      go_ret2
      skip
      exact ⟨_, rfl, HOWN.out, hbl⟩
set_option maxHeartbeats 2000000 in
set_option maxRecDepth 100000 in
theorem refSub_ok (va vb : Value) (a b : List Int) (ha : a.length = 16) (hb : b.length = 16) (hA : ∀ x ∈ a, isU x) (hB : ∀ x ∈ b, isU x) (w : World) (ra : Reads w va (u64s a)) (rb : Reads w vb (u64s b)) :
    Calls Tryd.prog 10 #[va, vb] w fun e w' => Gives w w' e (lessOf a b) := by
  unfold Gives
  obtain ⟨b1, o1, c1, rfl, hb1, hc1⟩ := reads16 ra ha
  obtain ⟨b2, o2, c2, rfl, hb2, hc2⟩ := reads16 rb hb
  have HC1 := Lib.hid hc1
  have HC2 := Lib.hid hc2
  have HA := Lib.hid hA
  have HB := Lib.hid hB
  clear hc1 hc2 hA hB ra rb
  have hl16 : a.length = 16 ∧ b.length = 16 := ⟨ha, hb⟩
  obtain ⟨R, hR⟩ : ∃ R, lessOf a b = R := ⟨_, rfl⟩
  have HOK : Hid (fits a b = true → R = (subL a b, 0)) := fun h => by rw [← hR, lessOf, if_pos hl16, if_pos h]
  have HNO : Hid (fits a b = false → R = ([], 3)) := fun h => by rw [← hR, lessOf, if_pos hl16, if_neg (by rw [h]; decide)]
  rw [hR]
  clear hl16 hR
  go_enter Tryd.func10, Tryd.ntmps10
  go_wp2_with fail
  go_loopw [6, 7] (fun v i wr => ∃ k : Nat, k ≤ 16 ∧ i = .int .i64 k ∧ wr.ownsRow w.heap.size 27 1 v k (u64s ((subL a b).take k)) ∧ Hid (∀ (j : Nat) (x y : Int), j < k → a[j]? = some x → b[j]? = some y → y ≤ x) ∧ Below w.heap.size w wr) (fun _ i _ => 16 - (intOf i).toNat)
  case atStart => exact ⟨0, by omega, rfl, World.ownsRow_nil _ _ _ _, fun j x y hj => absurd hj (Nat.not_lt_zero _), Below.refl _ _⟩
  case round =>
    obtain ⟨k, hk, rfl, hown, HY, hbl⟩ := hrel
    by_cases hlt : k < 16
    · obtain ⟨x, hx⟩ : ∃ x, a[k]? = some x := ⟨a[k], List.getElem?_eq_getElem (by omega)⟩
      obtain ⟨y, hy⟩ : ∃ y, b[k]? = some y := ⟨b[k], List.getElem?_eq_getElem (by omega)⟩
      have hux := HA.out x (List.mem_of_getElem? hx)
      have huy := HB.out y (List.mem_of_getElem? hy)
      have cx : wr.cell? ⟨b1, o1 + k, none⟩ = some (.int .u64 x) := by
        rw [hbl.cell (p := ⟨b1, o1 + k, none⟩) hb1]; exact HC1.out k _ hx
      have cy : wr.cell? ⟨b2, o2 + k, none⟩ = some (.int .u64 y) := by
        rw [hbl.cell (p := ⟨b2, o2 + k, none⟩) hb2]; exact HC2.out k _ hy
      have hz : (subL a b)[k]? = some (x - y) := zip_get hx hy
      have HT : Hid (u64s ((subL a b).take (k + 1)) = u64s ((subL a b).take k) ++ [.int .u64 (x - y)]) := by
        unfold u64s; rw [take_one _ k _ hz, List.map_append]; rfl
      have hk16 : (k : Int) < 16 := by omega
      obtain ⟨i0, hi, hz0, hz1, hz2⟩ := info_parts info_u64
      by_cases hyx : y ≤ x
      · have HY2 : Hid (∀ (j : Nat) (x y : Int), j < k + 1 → a[j]? = some x → b[j]? = some y → y ≤ x) := by
          intro j x' y' hj hx' hy'
          by_cases hjk : j = k
          · subst hjk; rw [hx] at hx'; rw [hy] at hy'; cases hx'; cases hy'; exact hyx
          · exact HY.out j x' y' (by omega) hx' hy'
        obtain ⟨hx1, hx2⟩ := hux
        obtain ⟨hy1, hy2⟩ := huy
        have q1 : IntKind.u64.wrap (x - y) = x - y := wraps_u64 _ (by omega) (by omega)
        have hyx2 : ¬ x < y := by omega
        clear hx hy HY hz
        go_wp2_with fail
        go_quiet (fail)
        go_wp2_with fail
        have cx0 : (wr.drewN nq).cell? ⟨b1, o1 + k, none⟩ = some (.int .u64 x) := cx
        have cy0 : (wr.drewN nq).cell? ⟨b2, o2 + k, none⟩ = some (.int .u64 y) := cy
        have hown0 : (wr.drewN nq).ownsRow w.heap.size 27 1 u6 k (u64s ((subL a b).take k)) := hown
        have hbl0 : Below w.heap.size w (wr.drewN nq) := below_drewN hbl nq
        obtain ⟨W0, hW0⟩ : ∃ W0, wr.drewN nq = W0 := ⟨_, rfl⟩
        rw [hW0] at cx0 cy0 hown0 hbl0 ⊢
        clear hW0 hown hbl cx cy
        have HOWN := Lib.hid hown0
        have HBL := Lib.hid hbl0
        clear hown0 hbl0
        have hown1 : W0.drew.ownsRow w.heap.size 27 1 u6 k (u64s ((subL a b).take k)) := HOWN.out
        have hbl1 : Below w.heap.size w W0.drew := below_drewN HBL.out 1
        have hne1 : some b1 ≠ u6.ownBlock := fun e => by have := (HOWN.out.lt b1 e.symm).1; omega
        have hne2 : some b2 ≠ u6.ownBlock := fun e => by have := (HOWN.out.lt b2 e.symm).1; omega
        have hs1 := HBL.out.size
        go_region_held3 (fun w' => w'.cell? ⟨b1, o1 + k, none⟩ = some (.int .u64 x) ∧ w'.cell? ⟨b2, o2 + k, none⟩ = some (.int .u64 y))
          (first | go_keep | exact ⟨(World.cell?_of_block (hgrow.block b1 (by simp; omega) hne1)).trans (by go_keep), (World.cell?_of_block (hgrow.block b2 (by simp; omega) hne2)).trans (by go_keep)⟩)
          (first | (refine step_append_lies _ rfl (.tmp 29) (.tmp 39) 22 rfl w.heap.size 27 i0 (.int .u64 0) 1 8 Tryd.underlying22 hi hz0 hz1 hz2 rfl (by decide) u6 k (u64s ((subL a b).take k)) (by simp [Act.eval]) (hown1.alloc _) ⟨W0.heap.size, 0, none⟩ 1 1 [.int .u64 (x - y)] (by simp [Act.eval]) rfl (cell_one_new _ _ _) (one_int _ _) (by decide) (by unfold maxLen; omega) (by omega) (by simp; omega) _ rfl ?_; intro g cap w1 hown' hgrow hat hlt))
        have hnew : w1.ownsRow w.heap.size 27 1 (.slice (some ⟨g, 0, none⟩) (k + 1) cap) (k + 1) (u64s ((subL a b).take (k + 1))) := by
          rw [HT.out]
          exact hown'
        have hbl2 := below_append (W1 := W0.drew) hbl1 hs1 hown1 hgrow
        clear hown' hgrow hown1 hbl1 hne1 hne2 hs1 HOWN HBL hat
        go_wp2_with fail
        go_roundw
        case rel => exact ⟨k + 1, by omega, by go_num, hnew, HY2, hbl2⟩
        case measure => simp [intOf]; omega
      · have HF := Lib.hid (fits_false hx hy (by omega))
        have hyx2 : x < y := by omega
        clear hx hy hown HY hux huy hyx hz HT
        go_wp2_with fail
        go_quiet (fail)
        go_wp2_with fail
        go_ret2
        rw [HNO.out HF.out]
        exact ⟨_, rfl, World.ownsRow_nil _ _ _ _, below_drewN hbl _⟩
    · obtain rfl : k = 16 := by omega
      have hown2 : wr.ownsRow w.heap.size 27 1 u6 (subL a b).length (u64s (subL a b)) := by
        rw [List.take_of_length_le (by rw [subL_len ha hb]; decide)] at hown
        rw [subL_len ha hb]; exact hown
      have hf : fits a b = true := fits_true fun j x y hx hy => HY.out j x y (by have := (List.getElem?_eq_some_iff.1 hx).1; omega) hx hy
      have HF := Lib.hid hf
      clear HY hf
      have HOWN := Lib.hid hown2
      clear hown hown2
      go_wp2_with fail
      go_ret2
      rw [HOK.out HF.out]
      exact ⟨_, rfl, HOWN.out, hbl⟩
end Go.Proofs.YtjiefmihodfgpaaDoor
