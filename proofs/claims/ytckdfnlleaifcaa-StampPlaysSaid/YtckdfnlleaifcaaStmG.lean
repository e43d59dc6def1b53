/- New, Last, Now, Grace; the calls that are refused. -/
import Derived.Test.YtckdfnlleaifcaaStmF
namespace Go.Proofs.Ytckdfnlleaifcaa
set_option linter.unusedVariables false
open Go.RowKit Go.Maps

set_option maxHeartbeats 1000000 in
set_option maxRecDepth 100000 in
theorem new_bad (a : Nat) (h : 1099511627776 < a) (w : World) :
    Calls Try.prog 12 #[.int .u64 (a : Int)] w fun e w' => e = .returned (.tuple #[.pointer none, .int .i64 2]) ∧ w = w' := by
  have h1 : (1099511627776 : Int) < (a : Int) := by omega
  go_enter Try.func12, Try.ntmps12
  go_wp2
  go_ret2
  exact ⟨rfl, rfl⟩
/-- New stamps. -/
def NewP (w : World) (gr now last : Nat) (d : List Tg) (n : Nat) (e : Ending) (w' : World) : Prop :=
  ∃ g O, e = .returned (.tuple #[.pointer (some ⟨g, 0, none⟩), .int .i64 0]) ∧ St w' g gr now last n d O ∧ (∀ x, O x → w.heap.size ≤ x) ∧ Below w.heap.size w w'
set_option maxHeartbeats 1000000 in
set_option maxRecDepth 100000 in
theorem new_ok (a : Nat) (h : a ≤ 1099511627776) (w : World) :
    Calls Try.prog 12 #[.int .u64 (a : Int)] w (NewP w a 0 0 [] 0) := by
  have h1 : ¬ (1099511627776 : Int) < (a : Int) := by omega
  have hmm := @run_makeMap Try.prog
  go_enter Try.func12, Try.ntmps12
  go_wp2
  go_ret2
  have hb := Blk.new (w.alloc (.map #[] 0)) 60 #[.int .u64 (a : Int), .int .u64 0, .int .u64 0, .map (some w.heap.size)]
  have hm := (World.mapv.made (val := ptrV) (q := .i64) w Try.prog 3 (fun _ => True)).kept (row := none) (World.grownBy_alloc _ (.cells #[.int .u64 (a : Int), .int .u64 0, .int .u64 0, .map (some w.heap.size)] 60) none) (by simp)
  refine ⟨w.heap.size + 1, fun x => x = w.heap.size + 1 ∨ x = w.heap.size, rfl, ⟨w.heap.size, fun _ => none, [], [], ⟨by simpa using hb, hm, rfl, rfl, (fun x t hx => by cases hx), rfl, (fun x hx => by cases hx), LOk.nil 0 0, ⟨Nat.le_refl _, fun x hx => by cases hx⟩, h, by omega, by omega⟩, (fun x hx => by cases hx), rfl, fun x => by simp⟩, fun x hx => by omega, ?_⟩
  exact ((Below.refl _ _).alloc (Nat.le_refl _) _).alloc (by simp) _
set_option maxHeartbeats 1000000 in
set_option maxRecDepth 100000 in
theorem last_any {w : World} {g gr now last n : Nat} {d : List Tg} {O : Nat → Prop} (h : St w g gr now last n d O) :
    Calls Try.prog 20 #[.pointer (some ⟨g, 0, none⟩)] w fun e w' => e = .returned (.int .u64 (last : Int)) ∧ w = w' := by
  obtain ⟨b, own, m, l, h1, h2, h3, h4⟩ := h
  have HC := Lib.hid (none_blk h1.bk)
  obtain ⟨c0, c1, c2, c3⟩ := h1.cells
  clear h1 h2 h3 h4
  go_enter Try.func20, Try.ntmps20
  go_wp2_with (go_at_call 36; refine HC.out.mono ?_; rintro e w1 ⟨rfl, rfl⟩)
  go_ret
  exact ⟨rfl, rfl⟩
set_option maxHeartbeats 1000000 in
set_option maxRecDepth 100000 in
theorem now_any {w : World} {g gr now last n : Nat} {d : List Tg} {O : Nat → Prop} (h : St w g gr now last n d O) :
    Calls Try.prog 23 #[.pointer (some ⟨g, 0, none⟩)] w fun e w' => e = .returned (.int .u64 (now : Int)) ∧ w = w' := by
  obtain ⟨b, own, m, l, h1, h2, h3, h4⟩ := h
  have HC := Lib.hid (none_blk h1.bk)
  obtain ⟨c0, c1, c2, c3⟩ := h1.cells
  clear h1 h2 h3 h4
  go_enter Try.func23, Try.ntmps23
  go_wp2_with (go_at_call 36; refine HC.out.mono ?_; rintro e w1 ⟨rfl, rfl⟩)
  go_ret
  exact ⟨rfl, rfl⟩
set_option maxHeartbeats 1000000 in
set_option maxRecDepth 100000 in
theorem grace_any {w : World} {g gr now last n : Nat} {d : List Tg} {O : Nat → Prop} (h : St w g gr now last n d O) :
    Calls Try.prog 29 #[.pointer (some ⟨g, 0, none⟩)] w fun e w' => e = .returned (.int .u64 (gr : Int)) ∧ w = w' := by
  obtain ⟨b, own, m, l, h1, h2, h3, h4⟩ := h
  have HC := Lib.hid (none_blk h1.bk)
  obtain ⟨c0, c1, c2, c3⟩ := h1.cells
  clear h1 h2 h3 h4
  go_enter Try.func29, Try.ntmps29
  go_wp2_with (go_at_call 36; refine HC.out.mono ?_; rintro e w1 ⟨rfl, rfl⟩)
  go_ret
  exact ⟨rfl, rfl⟩
set_option maxHeartbeats 2000000 in
set_option maxRecDepth 100000 in
theorem soft_bad {w : World} {g gr now last n : Nat} {d : List Tg} {O : Nat → Prop} (h : St w g gr now last n d O) (t : Int) (ht : tagB t = false) (a : Nat) :
    Calls Try.prog 26 #[.pointer (some ⟨g, 0, none⟩), .int .i64 t, .int .u64 (a : Int)] w fun e w' => e = .returned (.tuple #[.int .u64 0, .int .i64 2]) ∧ w = w' := by
  obtain ⟨b, own, m, l, h1, h2, rfl, h4⟩ := h
  have HC := Lib.hid (check_any h1.bk t)
  rw [ht] at HC
  clear h1 h2 h4 ht
  go_enter Try.func26, Try.ntmps26
  go_wp2_with (go_at_call 39; refine HC.out.mono ?_; rintro e w1 ⟨rfl, rfl⟩)
  go_ret2
  exact ⟨rfl, rfl⟩
set_option maxHeartbeats 2000000 in
set_option maxRecDepth 100000 in
theorem soft_full {w : World} {g gr now n : Nat} {d : List Tg} {O : Nat → Prop} (h : St w g gr now 18446744073709551615 n d O) (t : Nat) (ht : t < 65536) (a : Nat) :
    Calls Try.prog 26 #[.pointer (some ⟨g, 0, none⟩), .int .i64 (t : Int), .int .u64 (a : Int)] w fun e w' => e = .returned (.tuple #[.int .u64 0, .int .i64 7]) ∧ w = w' := by
  obtain ⟨b, own, m, l, h1, h2, rfl, h4⟩ := h
  have hT : tagB (t : Int) = true := by unfold tagB; simp; omega
  have HC := Lib.hid (check_any h1.bk (t : Int))
  rw [hT, if_pos rfl] at HC
  have HN := Lib.hid (next_full h1 a)
  clear h1 h2 h4 hT
  go_enter Try.func26, Try.ntmps26
  go_wp2_with (first
    | (go_at_call 39; refine HC.out.mono ?_; rintro e w1 ⟨rfl, rfl⟩)
    | (go_at_call 37; refine HN.out.mono ?_; rintro e w1 ⟨rfl, rfl⟩))
  go_ret2
  exact ⟨rfl, rfl⟩
end Go.Proofs.Ytckdfnlleaifcaa
