/- nil and zero tables. -/
import Derived.Test.YtanmihifkjhaaaaIntK
namespace Go.Proofs.Ytanmihifkjhaaaa
set_option linter.unusedVariables false
open Go.RowKit Go.Maps Go.Sort

/-- There is no table. -/
def NoT (v : Value) (w : World) : Prop := Calls Try.prog 34 #[v] w fun e w' => e = .returned (.bool true) ∧ w = w'
section
variable {v : Value} {w : World} (HN : NoT v w)
include HN
theorem z_at (n : Int) : Calls Try.prog 41 #[v, .int .i64 n] w fun e w' => e = .returned (.tuple #[.pointer none, .int .i64 1]) ∧ w = w' := by
  have HN := Lib.hid HN
  go_enter Try.func41, Try.ntmps41
  go_wp2_with (go_at_call 34; refine HN.out.mono ?_; rintro e w1 ⟨rfl, rfl⟩)
  go_ret2
  exact ⟨rfl, rfl⟩
theorem z_adds (s : ByteArray) : Calls Try.prog 14 #[v, .string s, .int .i64 0, .int .i64 1] w fun e w' => e = .returned (.bool true) ∧ w = w' := by
  have H : Hid (Calls Try.prog 22 #[v, .string s] w fun e w' => e = .returned (.tuple #[.int .i64 0, .int .i64 1]) ∧ w = w') := by
    have HN := Lib.hid HN
    unfold Hid
    go_enter Try.func22, Try.ntmps22
    go_wp2_with (go_at_call 34; refine HN.out.mono ?_; rintro e w1 ⟨rfl, rfl⟩)
    go_ret2
    exact ⟨rfl, rfl⟩
  clear HN
  go_enter Try.func14, Try.ntmps14
  go_wp2_with (go_at_call 22; refine H.out.mono ?_; rintro e w1 ⟨rfl, rfl⟩)
  go_ret
  exact ⟨rfl, rfl⟩
theorem z_frees (n : Int) : Calls Try.prog 16 #[v, .int .i64 n, .bool false, .int .i64 1] w fun e w' => e = .returned (.bool true) ∧ w = w' := by
  have H : Hid (Calls Try.prog 23 #[v, .int .i64 n] w fun e w' => e = .returned (.tuple #[.bool false, .int .i64 1]) ∧ w = w') := by
    have HA := Lib.hid (z_at HN n)
    clear HN
    unfold Hid
    go_enter Try.func23, Try.ntmps23
    go_wp2_with (go_at_call 41; refine HA.out.mono ?_; rintro e w1 ⟨rfl, rfl⟩)
    go_ret2
    exact ⟨rfl, rfl⟩
  clear HN
  go_enter Try.func16, Try.ntmps16
  go_wp2_with (go_at_call 23; refine H.out.mono ?_; rintro e w1 ⟨rfl, rfl⟩)
  go_ret
  exact ⟨rfl, rfl⟩
theorem z_finds (s : ByteArray) : Calls Try.prog 27 #[v, .string s, .int .i64 0, .int .i64 1] w fun e w' => e = .returned (.bool true) ∧ w = w' := by
  have H : Hid (Calls Try.prog 20 #[v, .string s] w fun e w' => e = .returned (.tuple #[.int .i64 0, .int .i64 1]) ∧ w = w') := by
    have HN := Lib.hid HN
    unfold Hid
    go_enter Try.func20, Try.ntmps20
    go_wp2_with (go_at_call 34; refine HN.out.mono ?_; rintro e w1 ⟨rfl, rfl⟩)
    go_ret2
    exact ⟨rfl, rfl⟩
  clear HN
  go_enter Try.func27, Try.ntmps27
  go_wp2_with (go_at_call 20; refine H.out.mono ?_; rintro e w1 ⟨rfl, rfl⟩)
  go_ret
  exact ⟨rfl, rfl⟩
theorem z_names (n : Int) : Calls Try.prog 21 #[v, .int .i64 n, .string ⟨#[]⟩, .int .i64 1] w fun e w' => e = .returned (.bool true) ∧ w = w' := by
  have H : Hid (Calls Try.prog 38 #[v, .int .i64 n] w fun e w' => e = .returned (.tuple #[.string ⟨#[]⟩, .int .i64 1]) ∧ w = w') := by
    have HA := Lib.hid (z_at HN n)
    clear HN
    unfold Hid
    go_enter Try.func38, Try.ntmps38
    go_wp2_with (go_at_call 41; refine HA.out.mono ?_; rintro e w1 ⟨rfl, rfl⟩)
    go_ret2
    exact ⟨rfl, rfl⟩
  clear HN
  go_enter Try.func21, Try.ntmps21
  go_wp2_with (go_at_call 38; refine H.out.mono ?_; rintro e w1 ⟨rfl, rfl⟩)
  go_ret
  exact ⟨rfl, rfl⟩
theorem z_refs (n : Int) : Calls Try.prog 28 #[v, .int .i64 n, .int .i64 0, .int .i64 1] w fun e w' => e = .returned (.bool true) ∧ w = w' := by
  have H : Hid (Calls Try.prog 46 #[v, .int .i64 n] w fun e w' => e = .returned (.tuple #[.int .i64 0, .int .i64 1]) ∧ w = w') := by
    have HA := Lib.hid (z_at HN n)
    clear HN
    unfold Hid
    go_enter Try.func46, Try.ntmps46
    go_wp2_with (go_at_call 41; refine HA.out.mono ?_; rintro e w1 ⟨rfl, rfl⟩)
    go_ret2
    exact ⟨rfl, rfl⟩
  clear HN
  go_enter Try.func28, Try.ntmps28
  go_wp2_with (go_at_call 46; refine H.out.mono ?_; rintro e w1 ⟨rfl, rfl⟩)
  go_ret
  exact ⟨rfl, rfl⟩
theorem z_list : Calls Try.prog 19 #[v] w fun e w' => e = .returned (.slice none 0 0) ∧ w = w' := by
  have HN := Lib.hid HN
  go_enter Try.func19, Try.ntmps19
  go_wp2_with (go_at_call 34; refine HN.out.mono ?_; rintro e w1 ⟨rfl, rfl⟩)
  go_ret
  exact ⟨rfl, rfl⟩
theorem z_lens : Calls Try.prog 17 #[v, .int .i64 0, .int .i64 0] w fun e w' => e = .returned (.bool true) ∧ w = w' := by
  have H : Hid (Calls Try.prog 24 #[v] w fun e w' => e = .returned (.tuple #[.int .i64 0, .int .i64 0]) ∧ w = w') := by
    have HN := Lib.hid HN
    unfold Hid
    go_enter Try.func24, Try.ntmps24
    go_wp2_with (go_at_call 34; refine HN.out.mono ?_; rintro e w1 ⟨rfl, rfl⟩)
    go_ret2
    exact ⟨rfl, rfl⟩
  clear HN
  go_enter Try.func17, Try.ntmps17
  go_wp2_with (go_at_call 24; refine H.out.mono ?_; rintro e w1 ⟨rfl, rfl⟩)
  go_ret
  exact ⟨rfl, rfl⟩
theorem z_copy : Calls Try.prog 26 #[v] w fun e w' => e = .returned (.pointer none) ∧ w = w' := by
  have HN := Lib.hid HN
  go_enter Try.func26, Try.ntmps26
  go_wp2_with (go_at_call 34; refine HN.out.mono ?_; rintro e w1 ⟨rfl, rfl⟩)
  go_ret
  exact ⟨rfl, rfl⟩
end
set_option maxHeartbeats 4000000 in
set_option maxRecDepth 100000 in
theorem nil_walk (s : ByteArray) (n : Int) (w : World) :
    Calls Try.prog 8 #[.string s, .int .i64 n] w fun e w' => e = .returned (.bool true) ∧ Below w.heap.size w w' := by
  by_cases hs : 100 < s.size
  · go_enter Try.func8, Try.ntmps8
    go_wp2_with fail
    refine (known_any _).mono ?_
    rintro e w1 ⟨rfl, b1⟩
    go_wp2_with fail
    go_ret
    exact ⟨rfl, b1⟩
  · go_enter Try.func8, Try.ntmps8
    go_wp2_with fail
    have hb : Below w.heap.size w ((w.alloc (.cells #[.int .i64 0, .int .u64 0, .slice none 0 0, .slice none 0 0, .slice none 0 0, .int .i64 0] 64)).alloc (.cells #[.pointer none, .pointer (some ⟨w.heap.size, 0, none⟩)] 23)) := ((Below.refl _ _).alloc (Nat.le_refl _) _).alloc (by simp) _
    have z0 := Blk.cell (Blk.alloc (Blk.new w 64 #[.int .i64 0, .int .u64 0, .slice none 0 0, .slice none 0 0, .slice none 0 0, .int .i64 0]) (.cells #[.pointer none, .pointer (some ⟨w.heap.size, 0, none⟩)] 23)) 0
    have zb := Blk.new (w.alloc (.cells #[.int .i64 0, .int .u64 0, .slice none 0 0, .slice none 0 0, .slice none 0 0, .int .i64 0] 64)) 23 #[.pointer none, .pointer (some ⟨w.heap.size, 0, none⟩)]
    rw [show (w.alloc (.cells #[.int .i64 0, .int .u64 0, .slice none 0 0, .slice none 0 0, .slice none 0 0, .int .i64 0] 64)).heap.size = w.heap.size + 1 by simp] at zb
    have c0 := Blk.cell zb 0
    have c1 := Blk.cell zb 1
    have zl := Blk.lt zb
    clear zb
    have HB := Lib.hid hb
    clear hb
    generalize (w.alloc (.cells #[.int .i64 0, .int .u64 0, .slice none 0 0, .slice none 0 0, .slice none 0 0, .int .i64 0] 64)).alloc (.cells #[.pointer none, .pointer (some ⟨w.heap.size, 0, none⟩)] 23) = W at *
    have H0 := Lib.hid (show NoT (.pointer none) W from none_nil W)
    have H1 := Lib.hid (show NoT (.pointer (some ⟨w.heap.size, 0, none⟩)) W from none_zero z0)
    clear z0
    simp only [List.getElem?_toArray, List.getElem?_cons_zero, List.getElem?_cons_succ] at c0 c1
    generalize hBB : w.heap.size = B at *
    have HK : Hid (∀ w', Below B w w' → Calls Try.prog 10 #[] w' fun e w'' => e = .returned (.bool true) ∧ Below w'.heap.size w' w'') := fun w' _ => known_any w'
    go_loopg [15] 2 (fun r i wr => ∃ k : Nat, k ≤ 2 ∧ r + k = 2 ∧ i = .int .i64 k ∧ wr = W)
    case atStart => exact ⟨0, by omega, by omega, rfl, rfl⟩
    case round =>
      obtain ⟨k, hk, hr, rfl, rfl⟩ := hrel
      rcases (by omega : k = 0 ∨ k = 1 ∨ k = 2) with rfl | rfl | rfl
      · clear c1 H1
        go_wp2_with (first
          | (go_at_call 14; refine (z_adds H0.out s).mono ?_; rintro e w1 ⟨rfl, rfl⟩)
          | (go_at_call 16; refine (z_frees H0.out n).mono ?_; rintro e w1 ⟨rfl, rfl⟩)
          | (go_at_call 27; refine (z_finds H0.out s).mono ?_; rintro e w1 ⟨rfl, rfl⟩)
          | (go_at_call 21; refine (z_names H0.out n).mono ?_; rintro e w1 ⟨rfl, rfl⟩)
          | (go_at_call 28; refine (z_refs H0.out n).mono ?_; rintro e w1 ⟨rfl, rfl⟩)
          | (go_at_call 19; refine (z_list H0.out).mono ?_; rintro e w1 ⟨rfl, rfl⟩)
          | (go_at_call 17; refine (z_lens H0.out).mono ?_; rintro e w1 ⟨rfl, rfl⟩)
          | (go_at_call 26; refine (z_copy H0.out).mono ?_; rintro e w1 ⟨rfl, rfl⟩))
        go_roundg 1
        case measure => omega
        case rel => exact ⟨1, by omega, by omega, rfl, rfl⟩
      · clear c0 H0
        go_wp2_with (first
          | (go_at_call 14; refine (z_adds H1.out s).mono ?_; rintro e w1 ⟨rfl, rfl⟩)
          | (go_at_call 16; refine (z_frees H1.out n).mono ?_; rintro e w1 ⟨rfl, rfl⟩)
          | (go_at_call 27; refine (z_finds H1.out s).mono ?_; rintro e w1 ⟨rfl, rfl⟩)
          | (go_at_call 21; refine (z_names H1.out n).mono ?_; rintro e w1 ⟨rfl, rfl⟩)
          | (go_at_call 28; refine (z_refs H1.out n).mono ?_; rintro e w1 ⟨rfl, rfl⟩)
          | (go_at_call 19; refine (z_list H1.out).mono ?_; rintro e w1 ⟨rfl, rfl⟩)
          | (go_at_call 17; refine (z_lens H1.out).mono ?_; rintro e w1 ⟨rfl, rfl⟩)
          | (go_at_call 26; refine (z_copy H1.out).mono ?_; rintro e w1 ⟨rfl, rfl⟩))
        go_roundg 0
        case measure => omega
        case rel => exact ⟨2, by omega, by omega, rfl, rfl⟩
      · clear c0 c1
        go_wp2_with fail
        refine (HK.out _ HB.out).mono ?_
        rintro e w1 ⟨rfl, b1⟩
        go_wp2_with fail
        go_ret
        exact ⟨rfl, by rw [hBB]; exact HB.out.trans (b1.mono (by have := zl; omega))⟩
end Go.Proofs.Ytanmihifkjhaaaa
