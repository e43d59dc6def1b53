/- The reference's raise, Clone, Numbers and Get. -/
import Derived.Test.YtjiefmihodfgpaaDoorStatE
import Derived.StillTailTactics
namespace Go.Proofs.YtjiefmihodfgpaaDoor
set_option linter.unusedVariables false
open Go.RowKit Go.Maps Go.Sort

theorem info_u64 : (Tryd.prog.info? 27).map (fun i => (i.zero, i.size, i.bytes)) = some (some (.int .u64 0), 1, 8) := by kernel_rfl

set_option maxHeartbeats 1000000 in
set_option maxRecDepth 100000 in
theorem refRaise_any (v : Value) (l : List Int) (j : Nat) (n : Int) (hl : l.length = 16) (hj : j < 16) (hn : 0 ≤ n) (hn2 : n ≤ 9223372036854775807) (hU : ∀ x ∈ l, isU x) (w : World) (hr : Reads w v (u64s l)) :
    Calls Tryd.prog 54 #[v, .int .i64 j, .int .i64 n] w fun e w' => ∃ v', e = .returned v' ∧ w'.ownsRow w.heap.size 27 1 v' (raiseL l j n).length (u64s (raiseL l j n)) ∧ Below w.heap.size w w' := by
  obtain ⟨i0, hi, hz0, hz1, hz2⟩ := info_parts info_u64
  have HR := Lib.hid hr
  have HLL := Lib.hid hl
  obtain ⟨x, hx⟩ : ∃ x, l.getD j 0 = x := ⟨_, rfl⟩
  have hux : isU x := hx ▸ getD_is hU j
  have hlj : l[j]? = some x := by rw [← hx, List.getD_eq_getElem?_getD, List.getElem?_eq_getElem (by omega)]; rfl
  have HLJ := Lib.hid hlj
  have hra : raiseL l j n = l.set j (plus64 x n) := by unfold raiseL; rw [hx]
  rw [hra]
  clear hr hx hlj hra hU
  go_enter Tryd.func54, Tryd.ntmps54
  go_wp2_with (at_builtin; refine wpList_append_reads _ rfl _ _ 22 rfl w.heap.size 27 i0 (.int .u64 0) 8 Tryd.underlying22 hi hz0 hz1 hz2 rfl _ _ _ rfl (World.ownsRow_nil _ _ _ _) _ (u64s l) rfl HR.out (one_u64s l) (by rw [List.length_map, hl]; decide) (by rw [List.length_map, hl]; decide) (Nat.le_refl _) ?_; intro v1 w1 hown1 hg1 hat1)
  rw [List.length_map, Nat.zero_add, List.nil_append, hl] at hown1
  have b1 : Below w.heap.size w w1 := (Below.refl _ _).grown hg1 (Nat.le_refl _) (fun j hj => by cases hj)
  obtain ⟨g, cap, rfl, hbg, hgs⟩ := hown1.form (by omega)
  have hcell : w1.cell? ⟨g, j, none⟩ = some (.int .u64 x) := by
    rw [hown1.cellAt j (by omega)]
    exact u64s_get HLJ.out
  have hfz := hown1.frozenAt j
  obtain ⟨hown', hgr⟩ := hown1.stored j (.int .u64 (plus64 x n))
  have hbl' := b1.setCell (p := ⟨g, j, none⟩) hbg (.int .u64 (plus64 x n))
  have hown'' : (w1.setCell ⟨g, j, none⟩ (.int .u64 (plus64 x n))).ownsRow w.heap.size 27 1 (.slice (some ⟨g, 0, none⟩) 16 cap) (l.set j (plus64 x n)).length (u64s (l.set j (plus64 x n))) := by
    unfold u64s; rw [List.map_set, List.length_set, hl]; exact hown'
  have HOWN := Lib.hid hown''
  have HBL := Lib.hid hbl'
  have hj2 : (j : Int) < 16 := by omega
  have q1 : IntKind.u64.wrap n = n := wraps_u64 _ hn (by omega)
  obtain ⟨hx1, hx2⟩ := hux
  have q2 : IntKind.u64.wrap (18446744073709551615 - x) = 18446744073709551615 - x := wraps_u64 _ (by omega) (by omega)
  have q3 := plus64_min (a := x) (b := n) ⟨hx1, hx2⟩ ⟨hn, by omega⟩
  have hp := plus64_is (a := x) (b := n) ⟨hx1, hx2⟩ ⟨hn, by omega⟩
  have q4 : IntKind.u64.wrap (plus64 x n) = plus64 x n := wraps_u64 _ hp.1 (by have := hp.2; omega)
  clear hown1 hg1 hat1 hown'' hbl' hown' hgr HLJ HR i0 hi hz0 hz1 hz2 b1
  go_wp2_with fail
  go_still_tail 16, (by kernel_rfl)
  go_wp2_with fail
  go_ret
  exact ⟨_, rfl, HOWN.out, below_drewN HBL.out _⟩

theorem CntAt.reads {w : World} {b : Nat} {l : List Int} (h : CntAt w b l) : Reads w (.slice (some ⟨b, 0, none⟩) 16 16) (u64s l) := by
  refine ⟨some ⟨b, 0, none⟩, 16, by rw [List.length_map, h.1], by rw [List.length_map, h.1]; decide, .inr ⟨b, 0, rfl, Blk.lt h.2, by rw [List.length_map, h.1]; decide, fun i x hx => ?_⟩⟩
  rw [Blk.cell h.2]
  simpa using hx

set_option maxHeartbeats 1000000 in
set_option maxRecDepth 100000 in
theorem clone_any (b : Nat) (l : List Int) (w : World) (h : CntAt w b l) :
    Calls Tryd.prog 37 #[.slice (some ⟨b, 0, none⟩) 16 16] w fun e w' => ∃ v', e = .returned v' ∧ w'.ownsRow w.heap.size 27 1 v' l.length (u64s l) ∧ Below w.heap.size w w' := by
  obtain ⟨i0, hi, hz0, hz1, hz2⟩ := info_parts info_u64
  have hl := h.1
  have hr := h.reads.below ((Below.refl w.heap.size w).alloc (Nat.le_refl _) (.cells #[] 27))
  have HR := Lib.hid hr
  clear hr h
  have q22 : ∀ W : World, (binOp .eql 22 (.slice (some ⟨b, 0, none⟩) 16 16) (.slice none 0 0)).run Tryd.prog W = .ok (.bool false) W := fun W => Lib.run_eql_slice_nil W _ _ _ _ _ _ _ Tryd.underlying22
  go_enter Tryd.func37, Tryd.ntmps37
  go_wp2_with (at_builtin; refine wpList_append_reads _ rfl _ _ 22 rfl w.heap.size 27 i0 (.int .u64 0) 8 Tryd.underlying22 hi hz0 hz1 hz2 rfl _ _ _ rfl (World.ownsRow_made w #[] 0 (Nat.le_refl _) (Nat.zero_le _) (by simp)) _ (u64s l) rfl HR.out (one_u64s l) (by rw [List.length_map, hl]; decide) (by rw [List.length_map, hl]; decide) (by simp) ?_; intro v1 w1 hown1 hg1 hat1)
  go_wp2_with fail
  go_ret
  refine ⟨_, rfl, ?_, ?_⟩
  · simpa using hown1
  · exact ((Below.refl _ w).alloc (Nat.le_refl _) _).grown hg1 (by simp) (by intro k hk; cases hk; exact Nat.le_refl _)

set_option maxHeartbeats 1000000 in
theorem numbers_any (b : Nat) (l : List Int) (w : World) (h : CntAt w b l) :
    Calls Tryd.prog 17 #[.pointer (some ⟨b, 0, none⟩)] w fun e w' => ∃ v', e = .returned v' ∧ w'.ownsRow w.heap.size 27 1 v' l.length (u64s l) ∧ Below w.heap.size w w' := by
  have HC : Hid (Calls Tryd.prog 37 #[.slice (some ⟨b, 0, none⟩) 16 16] w fun e w' => ∃ v', e = .returned v' ∧ w'.ownsRow w.heap.size 27 1 v' l.length (u64s l) ∧ Below w.heap.size w w') := clone_any b l w h
  clear h
  go_enter Tryd.func17, Tryd.ntmps17
  go_wp2_with fail
  refine HC.out.mono ?_
  rintro e w1 ⟨v', rfl, h1, h2⟩
  go_wp2_with fail
  go_ret
  exact ⟨_, rfl, h1, h2⟩
theorem numbers_nil (w : World) :
    Calls Tryd.prog 17 #[.pointer none] w fun e w' => e = .returned (.slice none 0 0) ∧ w = w' := by
  go_enter Tryd.func17, Tryd.ntmps17
  go_wp2
  go_ret
  exact ⟨rfl, rfl⟩

set_option maxHeartbeats 1000000 in
set_option maxRecDepth 100000 in
theorem get_in (b : Nat) (l : List Int) (j : Nat) (hj : j < 16) (w : World) (h : CntAt w b l) :
    Calls Tryd.prog 39 #[.pointer (some ⟨b, 0, none⟩), .int .i64 j] w fun e w' => e = .returned (.tuple #[.int .u64 (l.getD j 0), .int .i64 0]) ∧ w = w' := by
  have hc := h.cell j hj
  generalize l.getD j 0 = x at *
  have hj2 : (j : Int) < 16 := by omega
  clear h
  go_enter Tryd.func39, Tryd.ntmps39
  go_wp2
  go_ret2
  exact ⟨rfl, rfl⟩
theorem get_out (b : Nat) (j : Int) (hj : j < 0 ∨ 16 ≤ j) (w : World) :
    Calls Tryd.prog 39 #[.pointer (some ⟨b, 0, none⟩), .int .i64 j] w fun e w' => e = .returned (.tuple #[.int .u64 0, .int .i64 2]) ∧ w = w' := by
  by_cases h0 : j < 0
  · go_enter Tryd.func39, Tryd.ntmps39
    go_wp2
    go_ret2
    exact ⟨rfl, rfl⟩
  · have h1 : 16 ≤ j := by omega
    clear hj
    go_enter Tryd.func39, Tryd.ntmps39
    go_wp2
    go_ret2
    exact ⟨rfl, rfl⟩
theorem get_nil (j : Int) (w : World) :
    Calls Tryd.prog 39 #[.pointer none, .int .i64 j] w fun e w' => e = .returned (.tuple #[.int .u64 0, .int .i64 1]) ∧ w = w' := by
  go_enter Tryd.func39, Tryd.ntmps39
  go_wp2
  go_ret2
  exact ⟨rfl, rfl⟩

set_option maxHeartbeats 1000000 in
theorem gets_in (b : Nat) (l : List Int) (j : Nat) (hj : j < 16) (x : Int) (hx : l.getD j 0 = x) (w : World) (h : CntAt w b l) :
    Calls Tryd.prog 21 #[.pointer (some ⟨b, 0, none⟩), .int .i64 j, .int .u64 x, .int .i64 0] w fun e w' => e = .returned (.bool true) ∧ w = w' := by
  have HG : Hid (Calls Tryd.prog 39 #[.pointer (some ⟨b, 0, none⟩), .int .i64 j] w fun e w' => e = .returned (.tuple #[.int .u64 x, .int .i64 0]) ∧ w = w') := hx ▸ get_in b l j hj w h
  clear h hx
  go_enter Tryd.func21, Tryd.ntmps21
  go_wp2_with (go_at_call 39; refine HG.out.mono ?_; rintro e w1 ⟨rfl, rfl⟩)
  go_ret
  exact ⟨rfl, rfl⟩
theorem gets_out (b : Nat) (j : Int) (hj : j < 0 ∨ 16 ≤ j) (w : World) :
    Calls Tryd.prog 21 #[.pointer (some ⟨b, 0, none⟩), .int .i64 j, .int .u64 0, .int .i64 2] w fun e w' => e = .returned (.bool true) ∧ w = w' := by
  have HG : Hid (Calls Tryd.prog 39 #[.pointer (some ⟨b, 0, none⟩), .int .i64 j] w fun e w' => e = .returned (.tuple #[.int .u64 0, .int .i64 2]) ∧ w = w') := get_out b j hj w
  clear hj
  go_enter Tryd.func21, Tryd.ntmps21
  go_wp2_with (go_at_call 39; refine HG.out.mono ?_; rintro e w1 ⟨rfl, rfl⟩)
  go_ret
  exact ⟨rfl, rfl⟩
theorem gets_nil (j : Int) (w : World) :
    Calls Tryd.prog 21 #[.pointer none, .int .i64 j, .int .u64 0, .int .i64 1] w fun e w' => e = .returned (.bool true) ∧ w = w' := by
  go_enter Tryd.func21, Tryd.ntmps21
  go_wp2_with (go_at_call 39; refine (get_nil j _).mono ?_; rintro e w1 ⟨rfl, rfl⟩)
  go_ret
  exact ⟨rfl, rfl⟩

set_option maxHeartbeats 1000000 in
theorem new_any (w : World) :
    Calls Tryd.prog 15 #[] w fun e w' => e = .returned (.pointer (some ⟨w.heap.size, 0, none⟩)) ∧ CntAt w' w.heap.size (List.replicate 16 0) ∧ Below w.heap.size w w' := by
  go_enter Tryd.func15, Tryd.ntmps15
  go_wp2
  go_ret
  exact ⟨rfl, ⟨rfl, Blk.new _ _ _⟩, (Below.refl _ _).alloc (Nat.le_refl _) _⟩
set_option maxHeartbeats 1000000 in
theorem copy_any (b : Nat) (l : List Int) (w : World) (h : CntAt w b l) :
    Calls Tryd.prog 22 #[.pointer (some ⟨b, 0, none⟩)] w fun e w' => e = .returned (.pointer (some ⟨w.heap.size, 0, none⟩)) ∧ CntAt w' w.heap.size l ∧ Below w.heap.size w w' := by
  match l, h.1, h with
  | [a0, a1, a2, a3, a4, a5, a6, a7, a8, a9, a10, a11, a12, a13, a14, a15], _, h =>
  have c0 := h.cell 0 (by decide)
  have c1 := h.cell 1 (by decide)
  have c2 := h.cell 2 (by decide)
  have c3 := h.cell 3 (by decide)
  have c4 := h.cell 4 (by decide)
  have c5 := h.cell 5 (by decide)
  have c6 := h.cell 6 (by decide)
  have c7 := h.cell 7 (by decide)
  have c8 := h.cell 8 (by decide)
  have c9 := h.cell 9 (by decide)
  have c10 := h.cell 10 (by decide)
  have c11 := h.cell 11 (by decide)
  have c12 := h.cell 12 (by decide)
  have c13 := h.cell 13 (by decide)
  have c14 := h.cell 14 (by decide)
  have c15 := h.cell 15 (by decide)
  simp only [List.getD_cons_zero, List.getD_cons_succ] at *
  clear h
  go_enter Tryd.func22, Tryd.ntmps22
  go_wp2_with fail
  go_ret
  exact ⟨rfl, ⟨rfl, Blk.new _ _ _⟩, (Below.refl _ _).alloc (Nat.le_refl _) _⟩
end Go.Proofs.YtjiefmihodfgpaaDoor
