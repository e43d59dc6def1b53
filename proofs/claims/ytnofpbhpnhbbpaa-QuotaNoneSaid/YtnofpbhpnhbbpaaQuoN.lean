/- nil and zero books. -/
import Derived.Test.YtnofpbhpnhbbpaaQuoK
import Derived.Test.YtnofpbhpnhbbpaaOpenQ
namespace Go.Proofs.Ytnofpbhpnhbbpaa
set_option linter.unusedVariables false
open Go.RowKit Go.Maps Go.Sort

/-- There is no book. -/
def NoB (v : Value) (w : World) : Prop := Calls Try.prog 27 #[v] w fun e w' => e = .returned (.bool true) ∧ w = w'
theorem nob_nil (w : World) : NoB (.pointer none) w := none_nil w
theorem map_eqn (w : World) : Sem.run Try.prog (binOp BinOp.eql 59 (.map none) (.map none)) w = .ok (.bool true) w := by
  kernel_rfl
set_option maxHeartbeats 1000000 in
set_option maxRecDepth 100000 in
theorem nob_zero (g : Nat) (w : World) (h : Blk w g 61 #[.int .u64 0, .int .i64 0, .int .i64 0, .int .u64 0, .map none]) : NoB (.pointer (some ⟨g, 0, none⟩)) w := by
  have c4 := h.cell 4
  have hne := map_eqn
  unfold NoB
  go_enter Try.func27, Try.ntmps27
  go_wp2
  go_ret
  exact ⟨rfl, rfl⟩
section
variable {v : Value} {w : World} (HN : NoB v w)
include HN
set_option maxHeartbeats 1000000 in
theorem z_may (t : Int) (s : ByteArray) (k : Int) : Calls Try.prog 22 #[v, .int .u64 t, .string s, .int .i64 k] w fun e w' => e = .returned (.int .i64 1) ∧ w = w' := by
  have HN := Lib.hid HN
  go_enter Try.func22, Try.ntmps22
  go_wp2_with (go_at_call 27; refine HN.out.mono ?_; rintro e w1 ⟨rfl, rfl⟩)
  go_ret
  exact ⟨rfl, rfl⟩
set_option maxHeartbeats 1000000 in
theorem z_ask (t : Int) (s : ByteArray) (k : Int) : Calls Try.prog 9 #[v, .int .u64 t, .string s, .int .i64 k] w fun e w' => e = .returned (.tuple #[.bool false, .int .i64 1]) ∧ w = w' := by
  have HA := Lib.hid (z_may HN t s k)
  clear HN
  go_enter Try.func9, Try.ntmps9
  go_wp2_with (go_at_call 22; refine HA.out.mono ?_; rintro e w1 ⟨rfl, rfl⟩)
  go_ret2
  exact ⟨rfl, rfl⟩
set_option maxHeartbeats 1000000 in
theorem z_left (t : Int) (s : ByteArray) : Calls Try.prog 13 #[v, .int .u64 t, .string s] w fun e w' => e = .returned (.tuple #[.int .i64 0, .int .i64 0, .int .i64 1]) ∧ w = w' := by
  have HA := Lib.hid (z_may HN t s 0)
  clear HN
  go_enter Try.func13, Try.ntmps13
  go_wp2_with (go_at_call 22; refine HA.out.mono ?_; rintro e w1 ⟨rfl, rfl⟩)
  exact bodyPost_ret (v := .tuple #[.int .i64 0, .int .i64 0, .int .i64 1]) (by simp [results, Try.results13, go_sem]) rfl ⟨rfl, rfl⟩
set_option maxHeartbeats 1000000 in
theorem z_wait (t : Int) (s : ByteArray) (k : Int) : Calls Try.prog 14 #[v, .int .u64 t, .string s, .int .i64 k] w fun e w' => e = .returned (.tuple #[.int .u64 0, .int .i64 1]) ∧ w = w' := by
  have HA := Lib.hid (z_may HN t s k)
  clear HN
  go_enter Try.func14, Try.ntmps14
  go_wp2_with (go_at_call 22; refine HA.out.mono ?_; rintro e w1 ⟨rfl, rfl⟩)
  go_ret2
  exact ⟨rfl, rfl⟩
theorem z_list : Calls Try.prog 10 #[v] w fun e w' => e = .returned (.slice none 0 0) ∧ w = w' := by
  have HN := Lib.hid HN
  go_enter Try.func10, Try.ntmps10
  go_wp2_with (go_at_call 27; refine HN.out.mono ?_; rintro e w1 ⟨rfl, rfl⟩)
  go_ret
  exact ⟨rfl, rfl⟩
theorem z_now : Calls Try.prog 11 #[v] w fun e w' => e = .returned (.int .u64 0) ∧ w = w' := by
  have HN := Lib.hid HN
  go_enter Try.func11, Try.ntmps11
  go_wp2_with (go_at_call 27; refine HN.out.mono ?_; rintro e w1 ⟨rfl, rfl⟩)
  go_ret
  exact ⟨rfl, rfl⟩
theorem z_copy : Calls Try.prog 15 #[v] w fun e w' => e = .returned (.pointer none) ∧ w = w' := by
  have HN := Lib.hid HN
  go_enter Try.func15, Try.ntmps15
  go_wp2_with (go_at_call 27; refine HN.out.mono ?_; rintro e w1 ⟨rfl, rfl⟩)
  go_ret
  exact ⟨rfl, rfl⟩
end
set_option maxHeartbeats 4000000 in
set_option maxRecDepth 100000 in
theorem none_walk (wh k t : Int) (s : ByteArray) (w : World) :
    Calls Try.prog 6 #[.agg #[.int .i64 wh, .int .i64 k, .int .u64 t, .string s]] w fun e w' => e = .returned (.bool true) ∧ Below w.heap.size w w' := by
  by_cases hl : 60 < s.size
  · have hl2 : (60 : Int) < (s.size : Int) := by omega
    clear hl
    go_enter Try.func6, Try.ntmps6
    go_wp2_with fail
    refine (known_any _).mono ?_
    rintro e w1 ⟨rfl, b1⟩
    go_wp2_with fail
    go_ret
    exact ⟨rfl, ((Below.refl _ _).alloc (Nat.le_refl _) _).trans (b1.mono (by simp))⟩
  · have hl2 : (s.size : Int) ≤ 60 := by omega
    clear hl
    go_enter Try.func6, Try.ntmps6
    go_wp2_with fail
    have hb : Below w.heap.size w (((w.alloc (.cells #[.int .i64 wh, .int .i64 k, .int .u64 t, .string s] 54)).alloc (.cells #[.int .u64 0, .int .i64 0, .int .i64 0, .int .u64 0, .map none] 61)).alloc (.cells #[.pointer none, .pointer (some ⟨w.heap.size + 1, 0, none⟩)] 23)) := (((Below.refl _ _).alloc (Nat.le_refl _) _).alloc (by simp) _).alloc (by simp; omega) _
    have ha := Blk.alloc (Blk.alloc (Blk.new w 54 #[.int .i64 wh, .int .i64 k, .int .u64 t, .string s]) (.cells #[.int .u64 0, .int .i64 0, .int .i64 0, .int .u64 0, .map none] 61)) (.cells #[.pointer none, .pointer (some ⟨w.heap.size + 1, 0, none⟩)] 23)
    have hz := Blk.alloc (Blk.new (w.alloc (.cells #[.int .i64 wh, .int .i64 k, .int .u64 t, .string s] 54)) 61 #[.int .u64 0, .int .i64 0, .int .i64 0, .int .u64 0, .map none]) (.cells #[.pointer none, .pointer (some ⟨w.heap.size + 1, 0, none⟩)] 23)
    have zb := Blk.new ((w.alloc (.cells #[.int .i64 wh, .int .i64 k, .int .u64 t, .string s] 54)).alloc (.cells #[.int .u64 0, .int .i64 0, .int .i64 0, .int .u64 0, .map none] 61)) 23 #[.pointer none, .pointer (some ⟨w.heap.size + 1, 0, none⟩)]
    rw [show ((w.alloc (.cells #[.int .i64 wh, .int .i64 k, .int .u64 t, .string s] 54)).alloc (.cells #[.int .u64 0, .int .i64 0, .int .i64 0, .int .u64 0, .map none] 61)).heap.size = w.heap.size + 1 + 1 by simp] at zb
    rw [show (w.alloc (.cells #[.int .i64 wh, .int .i64 k, .int .u64 t, .string s] 54)).heap.size = w.heap.size + 1 by simp] at hz
    have a0 := ha.cell 0
    have a1 := ha.cell 1
    have a2 := ha.cell 2
    have a3 := ha.cell 3
    have c0 := zb.cell 0
    have c1 := zb.cell 1
    have zl := zb.lt
    clear zb ha
    have HB := Lib.hid hb
    clear hb
    generalize (((w.alloc (.cells #[.int .i64 wh, .int .i64 k, .int .u64 t, .string s] 54)).alloc (.cells #[.int .u64 0, .int .i64 0, .int .i64 0, .int .u64 0, .map none] 61)).alloc (.cells #[.pointer none, .pointer (some ⟨w.heap.size + 1, 0, none⟩)] 23)) = W at *
    have H0 := Lib.hid (show NoB (.pointer none) W from nob_nil W)
    have H1 := Lib.hid (nob_zero _ W hz)
    clear hz
    simp only [List.getElem?_toArray, List.getElem?_cons_zero, List.getElem?_cons_succ] at c0 c1 a0 a1 a2 a3
    have HK := Lib.hid (fun w' : World => known_any w')
    go_loopg [21] 2 (fun r i wr => ∃ j : Nat, j ≤ 2 ∧ r + j = 2 ∧ i = .int .i64 j ∧ wr = W)
    case atStart => exact ⟨0, by omega, by omega, rfl, rfl⟩
    case round =>
      obtain ⟨j, hj, hr, rfl, rfl⟩ := hrel
      rcases (by omega : j = 0 ∨ j = 1 ∨ j = 2) with rfl | rfl | rfl
      · clear c1 H1
        have H := H0
        clear H0
        go_wp2_with (first
          | (go_at_call 9; refine (z_ask H.out t s k).mono ?_; rintro e w1 ⟨rfl, rfl⟩)
          | (go_at_call 13; refine (z_left H.out t s).mono ?_; rintro e w1 ⟨rfl, rfl⟩)
          | (go_at_call 14; refine (z_wait H.out t s k).mono ?_; rintro e w1 ⟨rfl, rfl⟩)
          | (go_at_call 10; refine (z_list H.out).mono ?_; rintro e w1 ⟨rfl, rfl⟩)
          | (go_at_call 11; refine (z_now H.out).mono ?_; rintro e w1 ⟨rfl, rfl⟩)
          | (go_at_call 15; refine (z_copy H.out).mono ?_; rintro e w1 ⟨rfl, rfl⟩))
        go_roundg 1
        case measure => omega
        case rel => exact ⟨1, by omega, by omega, rfl, rfl⟩
      · clear c0 H0
        have H := H1
        clear H1
        go_wp2_with (first
          | (go_at_call 9; refine (z_ask H.out t s k).mono ?_; rintro e w1 ⟨rfl, rfl⟩)
          | (go_at_call 13; refine (z_left H.out t s).mono ?_; rintro e w1 ⟨rfl, rfl⟩)
          | (go_at_call 14; refine (z_wait H.out t s k).mono ?_; rintro e w1 ⟨rfl, rfl⟩)
          | (go_at_call 10; refine (z_list H.out).mono ?_; rintro e w1 ⟨rfl, rfl⟩)
          | (go_at_call 11; refine (z_now H.out).mono ?_; rintro e w1 ⟨rfl, rfl⟩)
          | (go_at_call 15; refine (z_copy H.out).mono ?_; rintro e w1 ⟨rfl, rfl⟩))
        go_roundg 0
        case measure => omega
        case rel => exact ⟨2, by omega, by omega, rfl, rfl⟩
      · clear c0 c1 a0 a1 a2 a3
        go_wp2_with fail
        refine (HK.out _).mono ?_
        rintro e w1 ⟨rfl, b1⟩
        go_wp2_with fail
        go_ret
        exact ⟨rfl, HB.out.trans (b1.mono HB.out.size)⟩
end Go.Proofs.Ytnofpbhpnhbbpaa
