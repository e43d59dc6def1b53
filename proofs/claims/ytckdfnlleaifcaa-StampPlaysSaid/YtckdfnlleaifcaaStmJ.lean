/- What the law compares: gives, first, of, Same, SameAll. -/
import Derived.Test.YtckdfnlleaifcaaStmI
import Derived.Laws.StructEq
namespace Go.Proofs.Ytckdfnlleaifcaa
set_option linter.unusedVariables false
open Go.RowKit Go.Maps Go.Sort

set_option maxHeartbeats 1000000 in
theorem gives_same (a b : Int) (w : World) : Calls Try.prog 14 #[.int .u64 a, .int .i64 b, .int .u64 a, .int .i64 b] w fun e w' => e = .returned (.bool true) ∧ w = w' := by
  go_enter Try.func14, Try.ntmps14
  go_wp2
  go_ret
  exact ⟨rfl, rfl⟩
abbrev SoftAt (w : World) (v : Value) (s : List Sft) : Prop := RowAt w 2 v s.length (softCells s)
set_option maxHeartbeats 4000000 in
set_option maxRecDepth 100000 in
/-- Same, of what is the same. -/
theorem same_any {w : World} {v1 v2 : Value} {s : List Sft} (t : Int) (h : Int) (h1 : SoftAt w v1 s) (h2 : SoftAt w v2 s) (hl : s.length ≤ 1000000) :
    Calls Try.prog 42 #[.agg #[.int .i64 t, .int .u64 h, v1], .agg #[.int .i64 t, .int .u64 h, v2]] w fun e w' => e = .returned (.bool true) ∧ Below w.heap.size w w' := by
  obtain ⟨p1, c1, hv1, hc1⟩ := h1.form
  obtain ⟨p2, c2, hv2, hc2⟩ := h2.form
  subst hv1
  subst hv2
  have hb := ((Below.refl w.heap.size w).alloc (Nat.le_refl _) (.cells #[.int .i64 t, .int .u64 h, .slice p1 s.length c1] 43)).alloc (by simp) (.cells #[.int .i64 t, .int .u64 h, .slice p2 s.length c2] 43)
  have hx1 : Blk ((w.alloc (.cells #[.int .i64 t, .int .u64 h, .slice p1 s.length c1] 43)).alloc (.cells #[.int .i64 t, .int .u64 h, .slice p2 s.length c2] 43)) w.heap.size 43 #[.int .i64 t, .int .u64 h, .slice p1 s.length c1] := (Blk.new w _ _).alloc _
  have hx2 : Blk ((w.alloc (.cells #[.int .i64 t, .int .u64 h, .slice p1 s.length c1] 43)).alloc (.cells #[.int .i64 t, .int .u64 h, .slice p2 s.length c2] 43)) (w.heap.size + 1) 43 #[.int .i64 t, .int .u64 h, .slice p2 s.length c2] := by
    simpa using Blk.new (w.alloc (.cells #[.int .i64 t, .int .u64 h, .slice p1 s.length c1] 43)) 43 #[.int .i64 t, .int .u64 h, .slice p2 s.length c2]
  have HB := Lib.hid hb
  have HR1 := Lib.hid (h1.below hb)
  have HR2 := Lib.hid (h2.below hb)
  have x0 := hx1.cell 0
  have x1 := hx1.cell 1
  have x2 := hx1.cell 2
  have y0 := hx2.cell 0
  have y1 := hx2.cell 1
  have y2 := hx2.cell 2
  have HX1 := Lib.hid hx1
  have HX2 := Lib.hid hx2
  generalize hW : (w.alloc (.cells #[.int .i64 t, .int .u64 h, .slice p1 s.length c1] 43)).alloc (.cells #[.int .i64 t, .int .u64 h, .slice p2 s.length c2] 43) = W at *
  have HW := Lib.hid hW
  clear h1 h2 hb hW hx1 hx2
  go_enter Try.func42, Try.ntmps42
  go_wp2_with fail
  rw [HW.out]
  go_wp2_with fail
  clear x0 x1 x2 y0 y1 y2
  go_loopg [5] s.length (fun q s5 wr => ∃ i : Nat, q + i = s.length ∧ s5 = .int .i64 (i : Int) ∧ Below W.heap.size W wr)
  case atStart => exact ⟨0, rfl, rfl, Below.refl _ _⟩
  case round =>
    obtain ⟨i, hq, rfl, hbr⟩ := hrel
    have HQ := Lib.hid hq
    have hil : i ≤ s.length := by omega
    have HBR := Lib.hid hbr
    have x2 := (HX1.out.below hbr HX1.out.lt).cell 2
    have y2 := (HX2.out.below hbr HX2.out.lt).cell 2
    clear hq
    by_cases hlt : i < s.length
    · obtain ⟨y, hy⟩ : ∃ y, s[i]? = some y := ⟨s[i], List.getElem?_eq_getElem hlt⟩
      obtain ⟨g1, o1, cc1, he1, _, _, hcell1⟩ := (HR1.out.below hbr).at (by omega)
      obtain ⟨g2, o2, cc2, he2, _, _, hcell2⟩ := (HR2.out.below hbr).at (by omega)
      injection he1 with e1 e2 e3
      injection he2 with e4 e5 e6
      subst e1 e3 e4 e6
      obtain ⟨d0, d1⟩ := softCells_get hy
      have f0 := hcell1 _ _ d0
      have f1 := hcell1 _ _ d1
      have f2 := hcell2 _ _ d0
      have f3 := hcell2 _ _ d1
      rw [← Nat.add_assoc] at f1 f3
      clear e2 e5 d0 d1 hcell1 hcell2 hbr hy
      go_wp2_with fail
      go_quiet (fail)
      go_wp2_with fail
      go_roundg (gk - 1)
      case measure => have := HQ.out; omega
      case rel => exact ⟨i + 1, by have := HQ.out; omega, by go_num, below_drewN HBR.out _⟩
    · obtain rfl : i = s.length := by omega
      clear hbr
      go_wp2_with fail
      go_ret
      exact ⟨rfl, HB.out.trans (HBR.out.mono HB.out.size)⟩
end Go.Proofs.Ytckdfnlleaifcaa
