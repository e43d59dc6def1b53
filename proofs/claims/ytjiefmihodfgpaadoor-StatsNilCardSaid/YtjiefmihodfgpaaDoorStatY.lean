/- The law StatsNil: it returns true. -/
import Derived.Test.YtjiefmihodfgpaaDoorStatX
import Derived.Test.YtjiefmihodfgpaaDoorOpenR
namespace Go.Proofs.YtjiefmihodfgpaaDoor
set_option linter.unusedVariables false
open Go.RowKit Go.Maps Go.Sort

theorem copy_nil (w : World) :
    Calls Tryd.prog 22 #[.pointer none] w fun e w' => e = .returned (.pointer none) ∧ w = w' := by
  go_enter Tryd.func22, Tryd.ntmps22
  go_wp2
  go_ret
  exact ⟨rfl, rfl⟩

set_option maxHeartbeats 4000000 in
set_option maxRecDepth 100000 in
theorem nil_walk (R : Rp) (n : Nat) (pl : Int) (w : World) (hL : LaidS w) :
    Calls Tryd.prog 5 #[.agg (rcs R n), .int .i64 pl] w fun e w' => e = .returned (.bool true) ∧ Below w.heap.size w w' := by
  obtain ⟨op, err, ver, cnt, p, cap, q, n2, c2⟩ := R
  have hb0 : Below w.heap.size w (w.alloc (.cells (rcs ⟨op, err, ver, cnt, p, cap, q, n2, c2⟩ n) 40)) := (Below.refl _ _).alloc (Nat.le_refl _) _
  have hmk : ∀ W : World, (Instr.makeSlice 22 (.int .i64 16) (.int .i64 16)).run Tryd.prog W = .ok (.slice (some ⟨W.heap.size, 0, none⟩) 16 16) (W.alloc (.cells (Go.madeCells #[Value.int .u64 0] 16) 27)) := run_make_row' (P := Tryd.prog) 22 27 (.int .u64 0) 8 Tryd.underlying22 info_u64 rfl .i64 .i64 16 (by decide) (by decide)
  have hL0 := hL.below hb0 hL.ge
  have H0 := Lib.hid (note_nil ⟨op, err, ver, cnt, p, cap, q, n2, c2⟩ n)
  by_cases h20 : n ≤ 20
  · go_enter Tryd.func5, Tryd.ntmps5
    go_wp2_with fail
    refine (H0.out _).mono ?_
    rintro e w1 ⟨rfl, b1⟩
    have b01 := hb0.trans (b1.mono hb0.size)
    have hL1 := hL.below b01 hL.ge
    clear hb0 b1 hL0
    go_wp2_with fail
    refine (numbers_nil _).mono ?_
    rintro e w2 ⟨rfl, rfl⟩
    go_wp2_with fail
    refine (gets_nil pl _).mono ?_
    rintro e w2 ⟨rfl, rfl⟩
    go_wp2_with fail
    refine (copy_nil _).mono ?_
    rintro e w2 ⟨rfl, rfl⟩
    go_wp2_with fail
    have em : Go.madeCells #[Value.int .u64 0] 16 = (u64s knZ).toArray := by kernel_rfl
    have hc := Blk.new w1 48 (u64s knZ).toArray
    have hc2 := Blk.alloc hc (.cells (Go.madeCells #[Value.int .u64 0] 16) 27)
    have hz := Blk.new (w1.alloc (.cells (u64s knZ).toArray 48)) 27 (Go.madeCells #[Value.int .u64 0] 16)
    have hz0 : (w1.alloc (.cells (u64s knZ).toArray 48)).heap.size = w1.heap.size + 1 := by simp
    rw [hz0] at hz
    have hrz := reads_blk hz knZ 16 (by decide) (by decide) (fun i x h => by rw [em]; simpa using h)
    have b3 := (b01.alloc b01.size (.cells (u64s knZ).toArray 48)).alloc (by have := b01.size; simp; omega) (.cells (Go.madeCells #[Value.int .u64 0] 16) 27)
    have hL3 := hL.below b3 hL.ge
    refine (is_any w1.heap.size knZ _ _ hL3 ⟨by decide, hc2⟩ hrz).mono ?_
    rintro e w4 ⟨rfl, b4⟩
    have b5 := b3.trans (b4.mono b3.size)
    have hL5 := hL.below b5 hL.ge
    clear b3 b4 hL3 hrz hz hz0 hc hc2 em b01 hL1 hmk
    go_wp2_with fail
    refine (known_any _ hL5).mono ?_
    rintro e w6 ⟨rfl, b6⟩
    go_wp2_with fail
    go_ret
    exact ⟨rfl, b5.trans (b6.mono b5.size)⟩
  · have h21 : 20 < n := by omega
    clear H0 hmk h20
    go_enter Tryd.func5, Tryd.ntmps5
    go_wp2_with fail
    refine (known_any _ hL0).mono ?_
    rintro e w6 ⟨rfl, b6⟩
    go_wp2_with fail
    go_ret
    exact ⟨rfl, hb0.trans (b6.mono hb0.size)⟩
end Go.Proofs.YtjiefmihodfgpaaDoor
