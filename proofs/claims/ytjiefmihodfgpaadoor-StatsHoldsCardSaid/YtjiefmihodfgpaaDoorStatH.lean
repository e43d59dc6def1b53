/- Add and Sub of the program. -/
import Derived.Test.YtjiefmihodfgpaaDoorStatG
import Derived.Deep.OwnRows
namespace Go.Proofs.YtjiefmihodfgpaaDoor
set_option linter.unusedVariables false
open Go.RowKit Go.Maps Go.Sort

def addL (a b : List Int) : List Int := List.zipWith plus64 a b
def subL (a b : List Int) : List Int := List.zipWith (fun x y => x - y) a b
def fits (a b : List Int) : Bool := (List.zipWith (fun x y => decide (y ≤ x)) a b).all id
/-- The sum and its error. -/
def sumOf (a b : List Int) : List Int × Int := if a.length = 16 ∧ b.length = 16 then (addL a b, 0) else ([], 2)
def lessOf (a b : List Int) : List Int × Int := if a.length = 16 ∧ b.length = 16 then (if fits a b = true then (subL a b, 0) else ([], 3)) else ([], 2)

theorem zip_get {f : Int → Int → Int} {a b : List Int} {k : Nat} {x y : Int} (hx : a[k]? = some x) (hy : b[k]? = some y) : (List.zipWith f a b)[k]? = some (f x y) := by
  rw [List.getElem?_zipWith, hx, hy]
theorem addL_len {a b : List Int} (ha : a.length = 16) (hb : b.length = 16) : (addL a b).length = 16 := by simp [addL, ha, hb]
theorem subL_len {a b : List Int} (ha : a.length = 16) (hb : b.length = 16) : (subL a b).length = 16 := by simp [subL, ha, hb]
/-- A slice of 16 counts that reads: where it lies. -/
theorem reads16 {w : World} {v : Value} {l : List Int} (h : Reads w v (u64s l)) (hl : l.length = 16) : ∃ blk off cap, v = .slice (some ⟨blk, off, none⟩) 16 cap ∧ blk < w.heap.size ∧ ∀ (i : Nat) (x : Int), l[i]? = some x → w.cell? ⟨blk, off + i, none⟩ = some (.int .u64 x) := by
  obtain ⟨p, cap, rfl, _, hp⟩ := h
  rcases hp with h0 | ⟨blk, off, rfl, hblk, _, hcell⟩
  · rw [List.length_map] at h0; omega
  · exact ⟨blk, off, cap, by rw [List.length_map, hl], hblk, fun i x hx => hcell i _ (u64s_get hx)⟩
theorem own16 (w : World) : (w.alloc (.cells (Go.madeCells #[Value.int .u64 0] 16) 27)).ownsRow w.heap.size 27 1 (.slice (some ⟨w.heap.size, 0, none⟩) 16 16) 16 (u64s (List.replicate 16 0)) :=
  ownsRow_whole (xs := u64s (List.replicate 16 0)) (by kernel_rfl) (by decide)

theorem fits_false {a b : List Int} {k : Nat} {x y : Int} (hx : a[k]? = some x) (hy : b[k]? = some y) (h : x < y) : fits a b = false := by
  cases hf : fits a b with
  | false => rfl
  | true =>
    have h2 := List.all_eq_true.1 hf (decide (y ≤ x)) (List.mem_of_getElem? (i := k) (by rw [List.getElem?_zipWith, hx, hy]))
    simp at h2; omega
theorem fits_true {a b : List Int} (h : ∀ (k : Nat) (x y : Int), a[k]? = some x → b[k]? = some y → y ≤ x) : fits a b = true := by
  unfold fits
  rw [List.all_eq_true]
  intro d hd
  obtain ⟨k, hk⟩ := List.getElem?_of_mem hd
  rw [List.getElem?_zipWith] at hk
  cases ha : a[k]? with
  | none => rw [ha] at hk; cases hk
  | some x =>
    cases hb : b[k]? with
    | none => rw [ha, hb] at hk; cases hk
    | some y =>
      rw [ha, hb] at hk
      have := h k x y ha hb
      simp at hk
      simp [← hk]; exact this
theorem take_one {α : Type} (l : List α) (j : Nat) (x : α) (h : l[j]? = some x) : l.take (j + 1) = l.take j ++ [x] := by
  rw [List.take_add_one, h]; rfl
/-- What a sum or a difference returns. -/
def Gives (w0 w : World) (e : Ending) (r : List Int × Int) : Prop := ∃ v', e = .returned (.tuple #[v', .int .i64 r.2]) ∧ w.ownsRow w0.heap.size 27 1 v' r.1.length (u64s r.1) ∧ Below w0.heap.size w0 w
theorem add_bad (va vb : Value) (a b : List Int) (h : ¬ (a.length = 16 ∧ b.length = 16)) (w : World) (ra : Reads w va (u64s a)) (rb : Reads w vb (u64s b)) :
    Calls Tryd.prog 18 #[va, vb] w fun e w' => Gives w w' e ([], 2) := by
  obtain ⟨pa, ca, rfl, hla, _⟩ := ra
  obtain ⟨pb, cb, rfl, hlb, _⟩ := rb
  rw [List.length_map] at *
  by_cases h1 : a.length = 16
  · have h2 : ((b.length : Int) == 16) = false := by rw [beq_eq_false_iff_ne]; omega
    rw [h1]
    clear h h1
    go_enter Tryd.func18, Tryd.ntmps18
    go_wp2
    go_ret2
    exact ⟨_, rfl, World.ownsRow_nil _ _ _ _, Below.refl _ _⟩
  · have h2 : ((a.length : Int) == 16) = false := by rw [beq_eq_false_iff_ne]; omega
    clear h h1
    go_enter Tryd.func18, Tryd.ntmps18
    go_wp2
    go_ret2
    exact ⟨_, rfl, World.ownsRow_nil _ _ _ _, Below.refl _ _⟩
theorem sub_bad (va vb : Value) (a b : List Int) (h : ¬ (a.length = 16 ∧ b.length = 16)) (w : World) (ra : Reads w va (u64s a)) (rb : Reads w vb (u64s b)) :
    Calls Tryd.prog 19 #[va, vb] w fun e w' => Gives w w' e ([], 2) := by
  obtain ⟨pa, ca, rfl, hla, _⟩ := ra
  obtain ⟨pb, cb, rfl, hlb, _⟩ := rb
  rw [List.length_map] at *
  by_cases h1 : a.length = 16
  · have h2 : ((b.length : Int) == 16) = false := by rw [beq_eq_false_iff_ne]; omega
    rw [h1]
    clear h h1
    go_enter Tryd.func19, Tryd.ntmps19
    go_wp2
    go_ret2
    exact ⟨_, rfl, World.ownsRow_nil _ _ _ _, Below.refl _ _⟩
  · have h2 : ((a.length : Int) == 16) = false := by rw [beq_eq_false_iff_ne]; omega
    clear h h1
    go_enter Tryd.func19, Tryd.ntmps19
    go_wp2
    go_ret2
    exact ⟨_, rfl, World.ownsRow_nil _ _ _ _, Below.refl _ _⟩
theorem refAdd_bad (va vb : Value) (a b : List Int) (h : ¬ (a.length = 16 ∧ b.length = 16)) (w : World) (ra : Reads w va (u64s a)) (rb : Reads w vb (u64s b)) :
    Calls Tryd.prog 9 #[va, vb] w fun e w' => Gives w w' e ([], 2) := by
  obtain ⟨pa, ca, rfl, hla, _⟩ := ra
  obtain ⟨pb, cb, rfl, hlb, _⟩ := rb
  rw [List.length_map] at *
  by_cases h1 : a.length = 16
  · have h2 : ((b.length : Int) == 16) = false := by rw [beq_eq_false_iff_ne]; omega
    rw [h1]
    clear h h1
    go_enter Tryd.func9, Tryd.ntmps9
    go_wp2
    go_ret2
    exact ⟨_, rfl, World.ownsRow_nil _ _ _ _, Below.refl _ _⟩
  · have h2 : ((a.length : Int) == 16) = false := by rw [beq_eq_false_iff_ne]; omega
    clear h h1
    go_enter Tryd.func9, Tryd.ntmps9
    go_wp2
    go_ret2
    exact ⟨_, rfl, World.ownsRow_nil _ _ _ _, Below.refl _ _⟩
theorem refSub_bad (va vb : Value) (a b : List Int) (h : ¬ (a.length = 16 ∧ b.length = 16)) (w : World) (ra : Reads w va (u64s a)) (rb : Reads w vb (u64s b)) :
    Calls Tryd.prog 10 #[va, vb] w fun e w' => Gives w w' e ([], 2) := by
  obtain ⟨pa, ca, rfl, hla, _⟩ := ra
  obtain ⟨pb, cb, rfl, hlb, _⟩ := rb
  rw [List.length_map] at *
  by_cases h1 : a.length = 16
  · have h2 : ((b.length : Int) == 16) = false := by rw [beq_eq_false_iff_ne]; omega
    rw [h1]
    clear h h1
    go_enter Tryd.func10, Tryd.ntmps10
    go_wp2
    go_ret2
    exact ⟨_, rfl, World.ownsRow_nil _ _ _ _, Below.refl _ _⟩
  · have h2 : ((a.length : Int) == 16) = false := by rw [beq_eq_false_iff_ne]; omega
    clear h h1
    go_enter Tryd.func10, Tryd.ntmps10
    go_wp2
    go_ret2
    exact ⟨_, rfl, World.ownsRow_nil _ _ _ _, Below.refl _ _⟩
set_option maxHeartbeats 2000000 in
set_option maxRecDepth 100000 in
theorem add_ok (va vb : Value) (a b : List Int) (ha : a.length = 16) (hb : b.length = 16) (hA : ∀ x ∈ a, isU x) (hB : ∀ x ∈ b, isU x) (w : World) (ra : Reads w va (u64s a)) (rb : Reads w vb (u64s b)) :
    Calls Tryd.prog 18 #[va, vb] w fun e w' => Gives w w' e (addL a b, 0) := by
  unfold Gives
  obtain ⟨b1, o1, c1, rfl, hb1, hc1⟩ := reads16 ra ha
  obtain ⟨b2, o2, c2, rfl, hb2, hc2⟩ := reads16 rb hb
  have HC1 := Lib.hid hc1
  have HC2 := Lib.hid hc2
  have HA := Lib.hid hA
  have HB := Lib.hid hB
  clear hc1 hc2 hA hB ra rb
  simp only [addL_len ha hb]
  have hm := own16 w
  have h0 := (Below.refl w.heap.size w).alloc (Nat.le_refl _) (.cells (Go.madeCells #[Value.int .u64 0] 16) 27)
  have hmk : ∀ W : World, (Instr.makeSlice 22 (.int .i64 16) (.int .i64 16)).run Tryd.prog W = .ok (.slice (some ⟨W.heap.size, 0, none⟩) 16 16) (W.alloc (.cells (Go.madeCells #[Value.int .u64 0] 16) 27)) := run_make_row' (P := Tryd.prog) 22 27 (.int .u64 0) 8 Tryd.underlying22 info_u64 rfl .i64 .i64 16 (by decide) (by decide)
  go_enter Tryd.func18, Tryd.ntmps18
  go_wp2_with fail
  clear hmk
  go_loopw [7, 19] (fun _ i wr => ∃ (k : Nat) (xs : List Int), k ≤ 16 ∧ i = .int .i64 k ∧ wr.ownsRow w.heap.size 27 1 (.slice (some ⟨w.heap.size, 0, none⟩) 16 16) 16 (u64s xs) ∧ Hid (∀ j, j < k → xs[j]? = (addL a b)[j]?) ∧ Below w.heap.size w wr) (fun _ i _ => 16 - (intOf i).toNat)
  case atStart => exact ⟨0, _, by omega, rfl, hm, fun j hj => absurd hj (Nat.not_lt_zero _), h0⟩
  case round =>
    obtain ⟨k, xs, hk, rfl, hown, HX, hbl⟩ := hrel
    clear hm h0
    have hlen : xs.length = 16 := by have := hown.1; rwa [Nat.mul_one, List.length_map] at this
    by_cases hlt : k < 16
    · obtain ⟨x, hx⟩ : ∃ x, a[k]? = some x := ⟨a[k], List.getElem?_eq_getElem (by omega)⟩
      obtain ⟨y, hy⟩ : ∃ y, b[k]? = some y := ⟨b[k], List.getElem?_eq_getElem (by omega)⟩
      have hux := HA.out x (List.mem_of_getElem? hx)
      have huy := HB.out y (List.mem_of_getElem? hy)
      have cx : wr.cell? ⟨b1, o1 + k, none⟩ = some (.int .u64 x) := by
        rw [hbl.cell (p := ⟨b1, o1 + k, none⟩) hb1]; exact HC1.out k _ hx
      have cy : wr.cell? ⟨b2, o2 + k, none⟩ = some (.int .u64 y) := by
        rw [hbl.cell (p := ⟨b2, o2 + k, none⟩) hb2]; exact HC2.out k _ hy
      have hz : (addL a b)[k]? = some (plus64 x y) := zip_get hx hy
      have HX2 : Hid (∀ j, j < k + 1 → (xs.set k (plus64 x y))[j]? = (addL a b)[j]?) := by
        intro j hj
        by_cases hjk : j = k
        · subst hjk; rw [hz, List.getElem?_set_self (by omega)]
        · rw [List.getElem?_set_ne (by omega)]; exact HX.out j (by omega)
      have hcell : ∃ u, wr.cell? ⟨w.heap.size, k, none⟩ = some u := by
        rw [hown.cellAt k (by omega)]
        exact ⟨_, List.getElem?_eq_getElem (by simp; omega)⟩
      have hfz := hown.frozenAt k
      obtain ⟨hown', hgr⟩ := hown.stored k (.int .u64 (plus64 x y))
      have hown'' : (wr.setCell ⟨w.heap.size, k, none⟩ (.int .u64 (plus64 x y))).ownsRow w.heap.size 27 1 (.slice (some ⟨w.heap.size, 0, none⟩) 16 16) 16 (u64s (xs.set k (plus64 x y))) := by
        unfold u64s; rw [List.map_set]; exact hown'
      have hbl' := hbl.setCell (p := ⟨w.heap.size, k, none⟩) (Nat.le_refl _) (.int .u64 (plus64 x y))
      have HOWN := Lib.hid hown''
      have HBL := Lib.hid hbl'
      have HP : Hid (∀ w : World, Calls Tryd.prog 38 #[.int .u64 x, .int .u64 y] w fun e w' => e = .returned (.int .u64 (plus64 x y)) ∧ w = w') := fun w => plus_int x y hux huy w
      obtain ⟨u, hcell⟩ := hcell
      have hk16 : (k : Int) < 16 := by omega
      clear hown hgr hown' hown'' hbl' hx hy hz HX hlen hux huy hbl
      go_wp2_with fail
      go_still_tail 12, (by kernel_rfl)
      still_call ((HP.out _).mono fun _ _ h => ⟨h.1, h.2.symm⟩)
      repeat still_step
      refine wpStill_nil ?_
      change wpList _ _ _ _ _ wr.drew
      have hfz1 : wr.drew.frozen? ⟨w.heap.size, k, none⟩ = false := hfz
      have hc1 : wr.drew.cell? ⟨w.heap.size, k, none⟩ = some u := hcell
      have HOWN1 : Hid ((wr.drew.setCell ⟨w.heap.size, k, none⟩ (.int .u64 (plus64 x y))).ownsRow w.heap.size 27 1 (.slice (some ⟨w.heap.size, 0, none⟩) 16 16) 16 (u64s (xs.set k (plus64 x y)))) := HOWN.out
      have HBL1 : Hid (Below w.heap.size w (wr.drew.setCell ⟨w.heap.size, k, none⟩ (.int .u64 (plus64 x y)))) := below_drewN HBL.out 1
      obtain ⟨W1, hW1⟩ : ∃ W1, wr.drew = W1 := ⟨_, rfl⟩
      rw [hW1] at HBL1 hfz1 hc1 HOWN1 ⊢
      clear hW1 hcell hfz HOWN HBL HP cx cy
      go_wp2_with fail
      go_roundw
      case rel => exact ⟨k + 1, _, by omega, by go_num, HOWN1.out, HX2, HBL1.out⟩
      case measure => simp [intOf]; omega
    · have e : xs = addL a b := list_eq_of (by rw [addL_len ha hb, hlen]) (fun j hj => HX.out j (by omega))
      subst e
      have HOWN := Lib.hid hown
      clear hown HX hlen
      go_wp2_with fail
      go_ret2
      exact ⟨_, rfl, HOWN.out, hbl⟩
set_option maxHeartbeats 2000000 in
set_option maxRecDepth 100000 in
theorem sub_ok (va vb : Value) (a b : List Int) (ha : a.length = 16) (hb : b.length = 16) (hA : ∀ x ∈ a, isU x) (hB : ∀ x ∈ b, isU x) (w : World) (ra : Reads w va (u64s a)) (rb : Reads w vb (u64s b)) :
    Calls Tryd.prog 19 #[va, vb] w fun e w' => Gives w w' e (lessOf a b) := by
  unfold Gives
  obtain ⟨b1, o1, c1, rfl, hb1, hc1⟩ := reads16 ra ha
  obtain ⟨b2, o2, c2, rfl, hb2, hc2⟩ := reads16 rb hb
  have HC1 := Lib.hid hc1
  have HC2 := Lib.hid hc2
  have HA := Lib.hid hA
  have HB := Lib.hid hB
  clear hc1 hc2 hA hB ra rb
  have hl16 : a.length = 16 ∧ b.length = 16 := ⟨ha, hb⟩
  obtain ⟨R, hR⟩ : ∃ R, lessOf a b = R := ⟨_, rfl⟩
  have HOK : Hid (fits a b = true → R = (subL a b, 0)) := fun h => by rw [← hR, lessOf, if_pos hl16, if_pos h]
  have HNO : Hid (fits a b = false → R = ([], 3)) := fun h => by rw [← hR, lessOf, if_pos hl16, if_neg (by rw [h]; decide)]
  rw [hR]
  clear hl16 hR
  have hm := own16 w
  have h0 := (Below.refl w.heap.size w).alloc (Nat.le_refl _) (.cells (Go.madeCells #[Value.int .u64 0] 16) 27)
  have hmk : ∀ W : World, (Instr.makeSlice 22 (.int .i64 16) (.int .i64 16)).run Tryd.prog W = .ok (.slice (some ⟨W.heap.size, 0, none⟩) 16 16) (W.alloc (.cells (Go.madeCells #[Value.int .u64 0] 16) 27)) := run_make_row' (P := Tryd.prog) 22 27 (.int .u64 0) 8 Tryd.underlying22 info_u64 rfl .i64 .i64 16 (by decide) (by decide)
  go_enter Tryd.func19, Tryd.ntmps19
  go_wp2_with fail
  clear hmk
  go_loopw [7, 19] (fun _ i wr => ∃ (k : Nat) (xs : List Int), k ≤ 16 ∧ i = .int .i64 k ∧ wr.ownsRow w.heap.size 27 1 (.slice (some ⟨w.heap.size, 0, none⟩) 16 16) 16 (u64s xs) ∧ Hid (∀ j, j < k → xs[j]? = (subL a b)[j]?) ∧ Hid (∀ (j : Nat) (x y : Int), j < k → a[j]? = some x → b[j]? = some y → y ≤ x) ∧ Below w.heap.size w wr) (fun _ i _ => 16 - (intOf i).toNat)
  case atStart => exact ⟨0, _, by omega, rfl, hm, fun j hj => absurd hj (Nat.not_lt_zero _), fun j x y hj => absurd hj (Nat.not_lt_zero _), h0⟩
  case round =>
    obtain ⟨k, xs, hk, rfl, hown, HX, HY, hbl⟩ := hrel
    clear hm h0
    have hlen : xs.length = 16 := by have := hown.1; rwa [Nat.mul_one, List.length_map] at this
    by_cases hlt : k < 16
    · obtain ⟨x, hx⟩ : ∃ x, a[k]? = some x := ⟨a[k], List.getElem?_eq_getElem (by omega)⟩
      obtain ⟨y, hy⟩ : ∃ y, b[k]? = some y := ⟨b[k], List.getElem?_eq_getElem (by omega)⟩
      have hux := HA.out x (List.mem_of_getElem? hx)
      have huy := HB.out y (List.mem_of_getElem? hy)
      have cx : wr.cell? ⟨b1, o1 + k, none⟩ = some (.int .u64 x) := by
        rw [hbl.cell (p := ⟨b1, o1 + k, none⟩) hb1]; exact HC1.out k _ hx
      have cy : wr.cell? ⟨b2, o2 + k, none⟩ = some (.int .u64 y) := by
        rw [hbl.cell (p := ⟨b2, o2 + k, none⟩) hb2]; exact HC2.out k _ hy
      by_cases hyx : y ≤ x
      · have HY2 : Hid (∀ (j : Nat) (x y : Int), j < k + 1 → a[j]? = some x → b[j]? = some y → y ≤ x) := by
          intro j x' y' hj hx' hy'
          by_cases hjk : j = k
          · subst hjk; rw [hx] at hx'; rw [hy] at hy'; cases hx'; cases hy'; exact hyx
          · exact HY.out j x' y' (by omega) hx' hy'
        obtain ⟨hx1, hx2⟩ := hux
        obtain ⟨hy1, hy2⟩ := huy
        have q1 : IntKind.u64.wrap (x - y) = x - y := wraps_u64 _ (by omega) (by omega)
        have hz : (subL a b)[k]? = some (x - y) := zip_get hx hy
        have HX2 : Hid (∀ j, j < k + 1 → (xs.set k (x - y))[j]? = (subL a b)[j]?) := by
          intro j hj
          by_cases hjk : j = k
          · subst hjk; rw [hz, List.getElem?_set_self (by omega)]
          · rw [List.getElem?_set_ne (by omega)]; exact HX.out j (by omega)
        have hcell : ∃ u, wr.cell? ⟨w.heap.size, k, none⟩ = some u := by
          rw [hown.cellAt k (by omega)]
          exact ⟨_, List.getElem?_eq_getElem (by simp; omega)⟩
        have hfz := hown.frozenAt k
        obtain ⟨hown', hgr⟩ := hown.stored k (.int .u64 (x - y))
        have hown'' : (wr.setCell ⟨w.heap.size, k, none⟩ (.int .u64 (x - y))).ownsRow w.heap.size 27 1 (.slice (some ⟨w.heap.size, 0, none⟩) 16 16) 16 (u64s (xs.set k (x - y))) := by
          unfold u64s; rw [List.map_set]; exact hown'
        have hbl' := hbl.setCell (p := ⟨w.heap.size, k, none⟩) (Nat.le_refl _) (.int .u64 (x - y))
        have HOWN := Lib.hid hown''
        have HBL := Lib.hid hbl'
        obtain ⟨u, hcell⟩ := hcell
        have hk16 : (k : Int) < 16 := by omega
        clear hown hgr hown' hown'' hbl' hx hy hz HX HY hlen hbl
        have hyx2 : ¬ x < y := by omega
        go_wp2_with fail
        go_quiet (fail)
        go_wp2_with fail
        have cx0 : (wr.drewN nq).cell? ⟨b1, o1 + k, none⟩ = some (.int .u64 x) := cx
        have cy0 : (wr.drewN nq).cell? ⟨b2, o2 + k, none⟩ = some (.int .u64 y) := cy
        have hfz0 : (wr.drewN nq).frozen? ⟨w.heap.size, k, none⟩ = false := hfz
        have hc0 : (wr.drewN nq).cell? ⟨w.heap.size, k, none⟩ = some u := hcell
        have HOWN0 : Hid (((wr.drewN nq).setCell ⟨w.heap.size, k, none⟩ (.int .u64 (x - y))).ownsRow w.heap.size 27 1 (.slice (some ⟨w.heap.size, 0, none⟩) 16 16) 16 (u64s (xs.set k (x - y)))) := HOWN.out
        have HBL0 : Hid (Below w.heap.size w ((wr.drewN nq).setCell ⟨w.heap.size, k, none⟩ (.int .u64 (x - y)))) := below_drewN HBL.out nq
        obtain ⟨W0, hW0⟩ : ∃ W0, wr.drewN nq = W0 := ⟨_, rfl⟩
        rw [hW0] at cx0 cy0 HBL0 hfz0 hc0 HOWN0 ⊢
        clear hW0 hcell hfz HOWN HBL cx cy
        go_still_tail 12, (by kernel_rfl)
        have hfz1 : W0.drew.frozen? ⟨w.heap.size, k, none⟩ = false := hfz0
        have hc1 : W0.drew.cell? ⟨w.heap.size, k, none⟩ = some u := hc0
        have HOWN1 : Hid ((W0.drew.setCell ⟨w.heap.size, k, none⟩ (.int .u64 (x - y))).ownsRow w.heap.size 27 1 (.slice (some ⟨w.heap.size, 0, none⟩) 16 16) 16 (u64s (xs.set k (x - y)))) := HOWN0.out
        have HBL1 : Hid (Below w.heap.size w (W0.drew.setCell ⟨w.heap.size, k, none⟩ (.int .u64 (x - y)))) := below_drewN HBL0.out 1
        obtain ⟨W1, hW1⟩ : ∃ W1, W0.drew = W1 := ⟨_, rfl⟩
        change wpList _ _ _ _ _ W0.drew
        rw [hW1] at HBL1 hfz1 hc1 HOWN1 ⊢
        clear hW1 hc0 hfz0 HOWN0 HBL0 cx0 cy0
        go_wp2_with fail
        go_roundw
        case rel => exact ⟨k + 1, _, by omega, by go_num, HOWN1.out, HX2, HY2, HBL1.out⟩
        case measure => simp [intOf]; omega
      · have hf := fits_false hx hy (by omega)
        have HF := Lib.hid hf
        have hyx2 : x < y := by omega
        clear hx hy hown HX HY hlen hux huy hf hyx
        go_wp2_with fail
        go_quiet (fail)
        go_wp2_with fail
        go_ret2
        rw [HNO.out HF.out]
        exact ⟨_, rfl, World.ownsRow_nil _ _ _ _, below_drewN hbl _⟩
    · have e : xs = subL a b := list_eq_of (by rw [subL_len ha hb, hlen]) (fun j hj => HX.out j (by omega))
      subst e
      have hf : fits a b = true := fits_true fun j x y hx hy => HY.out j x y (by have := (List.getElem?_eq_some_iff.1 hx).1; omega) hx hy
      have hown2 : wr.ownsRow w.heap.size 27 1 (.slice (some ⟨w.heap.size, 0, none⟩) 16 16) (subL a b).length (u64s (subL a b)) := by rw [subL_len ha hb]; exact hown
      have HOWN := Lib.hid hown2
      have HF := Lib.hid hf
      clear hown hown2 HX HY hlen hf
      go_wp2_with fail
      go_ret2
      rw [HOK.out HF.out]
      exact ⟨_, rfl, HOWN.out, hbl⟩
end Go.Proofs.YtjiefmihodfgpaaDoor
