/- nil and zero stamps. -/
import Derived.Test.YtckdfnlleaifcaaStmM
namespace Go.Proofs.Ytckdfnlleaifcaa
set_option linter.unusedVariables false
open Go.RowKit Go.Maps Go.Sort

/-- There are no stamps. -/
def NoS (v : Value) (w : World) : Prop := Calls Try.prog 36 #[v] w fun e w' => e = .returned (.bool true) ∧ w = w'
theorem nos_nil (w : World) : NoS (.pointer none) w := none_nil w
theorem nos_zero (g : Nat) (w : World) (h : Blk w g 60 #[.int .u64 0, .int .u64 0, .int .u64 0, .map none]) : NoS (.pointer (some ⟨g, 0, none⟩)) w := none_zero h
section
variable {v : Value}
set_option maxHeartbeats 1000000 in
theorem z_check {w : World} (HN : NoS v w) (t : Int) : Calls Try.prog 39 #[v, .int .i64 t] w fun e w' => e = .returned (.int .i64 1) ∧ w = w' := by
  have HN := Lib.hid HN
  go_enter Try.func39, Try.ntmps39
  go_wp2_with (go_at_call 36; refine HN.out.mono ?_; rintro e w1 ⟨rfl, rfl⟩)
  go_ret
  exact ⟨rfl, rfl⟩
set_option maxHeartbeats 1000000 in
theorem z_hard {w : World} (HN : NoS v w) (t a : Int) : Calls Try.prog 25 #[v, .int .i64 t, .int .u64 a] w fun e w' => e = .returned (.tuple #[.int .u64 0, .int .i64 1]) ∧ w = w' := by
  have HA := Lib.hid (z_check HN t)
  clear HN
  go_enter Try.func25, Try.ntmps25
  go_wp2_with (go_at_call 39; refine HA.out.mono ?_; rintro e w1 ⟨rfl, rfl⟩)
  go_ret2
  exact ⟨rfl, rfl⟩
set_option maxHeartbeats 1000000 in
theorem z_soft {w : World} (HN : NoS v w) (t a : Int) : Calls Try.prog 26 #[v, .int .i64 t, .int .u64 a] w fun e w' => e = .returned (.tuple #[.int .u64 0, .int .i64 1]) ∧ w = w' := by
  have HA := Lib.hid (z_check HN t)
  clear HN
  go_enter Try.func26, Try.ntmps26
  go_wp2_with (go_at_call 39; refine HA.out.mono ?_; rintro e w1 ⟨rfl, rfl⟩)
  go_ret2
  exact ⟨rfl, rfl⟩
set_option maxHeartbeats 1000000 in
theorem z_other {w : World} (HN : NoS v w) (a : Int) : Calls Try.prog 15 #[v, .int .u64 a] w fun e w' => e = .returned (.tuple #[.int .u64 0, .int .i64 1]) ∧ w = w' := by
  have HN := Lib.hid HN
  go_enter Try.func15, Try.ntmps15
  go_wp2_with (go_at_call 36; refine HN.out.mono ?_; rintro e w1 ⟨rfl, rfl⟩)
  go_ret2
  exact ⟨rfl, rfl⟩
set_option maxHeartbeats 1000000 in
theorem z_adv {w : World} (HN : NoS v w) (a : Int) : Calls Try.prog 16 #[v, .int .u64 a] w fun e w' => e = .returned (.int .i64 1) ∧ w = w' := by
  have HN := Lib.hid HN
  go_enter Try.func16, Try.ntmps16
  go_wp2_with (go_at_call 36; refine HN.out.mono ?_; rintro e w1 ⟨rfl, rfl⟩)
  go_ret
  exact ⟨rfl, rfl⟩
set_option maxHeartbeats 1000000 in
theorem z_forget {w : World} (HN : NoS v w) (t : Int) : Calls Try.prog 17 #[v, .int .i64 t] w fun e w' => e = .returned (.int .i64 1) ∧ w = w' := by
  have HA := Lib.hid (z_check HN t)
  clear HN
  go_enter Try.func17, Try.ntmps17
  go_wp2_with (go_at_call 39; refine HA.out.mono ?_; rintro e w1 ⟨rfl, rfl⟩)
  go_ret
  exact ⟨rfl, rfl⟩
set_option maxHeartbeats 1000000 in
theorem z_first {w : World} (HN : NoS v w) (t a : Int) : Calls Try.prog 45 #[v, .int .i64 t, .int .u64 a] w fun e w' => e = .returned (.tuple #[.int .u64 0, .bool false, .int .i64 1]) ∧ w = w' := by
  have HA := Lib.hid (z_check HN t)
  clear HN
  go_enter Try.func45, Try.ntmps45
  go_wp2_with (go_at_call 39; refine HA.out.mono ?_; rintro e w1 ⟨rfl, rfl⟩)
  exact bodyPost_ret (v := .tuple #[.int .u64 0, .bool false, .int .i64 1]) (by simp [results, Try.results45, go_sem]) rfl ⟨rfl, rfl⟩
set_option maxHeartbeats 1000000 in
theorem z_tags {w : World} (HN : NoS v w)  : Calls Try.prog 28 #[v] w fun e w' => e = .returned (.slice none 0 0) ∧ w = w' := by
  have HN := Lib.hid HN
  go_enter Try.func28, Try.ntmps28
  go_wp2_with (go_at_call 36; refine HN.out.mono ?_; rintro e w1 ⟨rfl, rfl⟩)
  go_ret
  exact ⟨rfl, rfl⟩
set_option maxHeartbeats 1000000 in
theorem z_last {w : World} (HN : NoS v w)  : Calls Try.prog 20 #[v] w fun e w' => e = .returned (.int .u64 0) ∧ w = w' := by
  have HN := Lib.hid HN
  go_enter Try.func20, Try.ntmps20
  go_wp2_with (go_at_call 36; refine HN.out.mono ?_; rintro e w1 ⟨rfl, rfl⟩)
  go_ret
  exact ⟨rfl, rfl⟩
set_option maxHeartbeats 1000000 in
theorem z_now {w : World} (HN : NoS v w)  : Calls Try.prog 23 #[v] w fun e w' => e = .returned (.int .u64 0) ∧ w = w' := by
  have HN := Lib.hid HN
  go_enter Try.func23, Try.ntmps23
  go_wp2_with (go_at_call 36; refine HN.out.mono ?_; rintro e w1 ⟨rfl, rfl⟩)
  go_ret
  exact ⟨rfl, rfl⟩
set_option maxHeartbeats 1000000 in
theorem z_grace {w : World} (HN : NoS v w)  : Calls Try.prog 29 #[v] w fun e w' => e = .returned (.int .u64 0) ∧ w = w' := by
  have HN := Lib.hid HN
  go_enter Try.func29, Try.ntmps29
  go_wp2_with (go_at_call 36; refine HN.out.mono ?_; rintro e w1 ⟨rfl, rfl⟩)
  go_ret
  exact ⟨rfl, rfl⟩
set_option maxHeartbeats 1000000 in
theorem z_copy {w : World} (HN : NoS v w)  : Calls Try.prog 30 #[v] w fun e w' => e = .returned (.pointer none) ∧ w = w' := by
  have HN := Lib.hid HN
  go_enter Try.func30, Try.ntmps30
  go_wp2_with (go_at_call 36; refine HN.out.mono ?_; rintro e w1 ⟨rfl, rfl⟩)
  go_ret
  exact ⟨rfl, rfl⟩
set_option maxHeartbeats 1000000 in
theorem z_list {w : World} (HN : NoS v w) : Calls Try.prog 21 #[v] w fun e w' => e = .returned (.slice none 0 0) ∧ w = w' := by
  have HT := Lib.hid (z_tags HN)
  clear HN
  go_enter Try.func21, Try.ntmps21
  go_wp2_with (go_at_call 28; refine HT.out.mono ?_; rintro e w1 ⟨rfl, rfl⟩)
  refine wp_loop_rounds 1 ?_
  rw [rounds_succ]
  go_wp2_with fail
  go_ret
  exact ⟨rfl, rfl⟩
set_option maxHeartbeats 1000000 in
set_option maxRecDepth 100000 in
theorem z_of {w : World} (HN : ∀ w', Below w.heap.size w w' → NoS v w') (t : Int) : Calls Try.prog 18 #[v, .int .i64 t] w fun e w' => e = .returned (.tuple #[.agg #[.int .i64 0, .int .u64 0, .slice none 0 0], .int .i64 1]) ∧ Below w.heap.size w w' := by
  have HC := Lib.hid (z_check (HN _ ((Below.refl _ _).alloc (Nat.le_refl _) (.cells #[.int .i64 0, .int .u64 0, .slice none 0 0] 43))) t)
  clear HN
  go_enter Try.func18, Try.ntmps18
  go_wp2_with (go_at_call 39; refine HC.out.mono ?_; rintro e w1 ⟨rfl, rfl⟩)
  refine bodyPost_ret (v := .tuple #[.agg #[.int .i64 0, .int .u64 0, .slice none 0 0], .int .i64 1]) (by simp [results, Try.results18, go_sem]) rfl ⟨rfl, ?_⟩
  repeat (first | exact Below.refl _ _ | refine Below.setCell ?_ (by simp <;> omega) _ | refine Below.alloc ?_ (by simp <;> omega) _)
set_option maxHeartbeats 1000000 in
set_option maxRecDepth 100000 in
theorem z_ofl {w : World} (HN : ∀ w', Below w.heap.size w w' → NoS v w') (t : Int) : Calls Try.prog 19 #[v, .int .i64 t, .agg #[.int .i64 0, .int .u64 0, .slice none 0 0], .int .i64 1] w fun e w' => e = .returned (.bool true) ∧ Below w.heap.size w w' := by
  have hb := (Below.refl w.heap.size w).alloc (Nat.le_refl _) (.cells #[.int .i64 0, .int .u64 0, .slice none 0 0] 43)
  have hx := Blk.new w 43 #[.int .i64 0, .int .u64 0, .slice none 0 0]
  have HO := Lib.hid (z_of (w := w.alloc (.cells #[.int .i64 0, .int .u64 0, .slice none 0 0] 43)) (fun w' h => HN w' (hb.trans (h.mono (by simp)))) t)
  have HB := Lib.hid hb
  have HX := Lib.hid hx
  clear hb hx HN
  generalize hW : w.alloc (.cells #[.int .i64 0, .int .u64 0, .slice none 0 0] 43) = W at *
  have HW := Lib.hid hW
  have hzl := HX.out.lt
  clear hW
  go_enter Try.func19, Try.ntmps19
  go_wp2_with fail
  rw [HW.out]
  go_wp2_with fail
  refine HO.out.mono ?_
  rintro e w1 ⟨rfl, b1⟩
  have hx1 := HX.out.below b1 hzl
  have hb1 := (Below.refl w1.heap.size w1).alloc (Nat.le_refl _) (.cells #[.int .i64 0, .int .u64 0, .slice none 0 0] 43)
  have y0 := (hx1.below hb1 hx1.lt).cell 0
  have y1 := (hx1.below hb1 hx1.lt).cell 1
  have y2 := (hx1.below hb1 hx1.lt).cell 2
  have HC := Lib.hid (same_any (w := w1.alloc (.cells #[.int .i64 0, .int .u64 0, .slice none 0 0] 43)) (s := []) 0 0 (RowAt.nil _ _) (RowAt.nil _ _) (Nat.zero_le _))
  have HB1 := Lib.hid ((HB.out.trans (b1.mono HB.out.size)).trans (hb1.mono (Nat.le_trans HB.out.size b1.size)))
  clear HO HX b1 hx1 hb1
  go_wp2_with fail
  refine HC.out.mono ?_
  rintro e w3 ⟨rfl, b3⟩
  have HB3 := Lib.hid (HB1.out.trans (b3.mono HB1.out.size))
  clear HC b3 y0 y1 y2
  go_wp2_with fail
  go_ret
  exact ⟨rfl, HB3.out⟩
set_option maxHeartbeats 1000000 in
theorem z_firstl {w : World} (HN : NoS v w) (t a : Int) : Calls Try.prog 27 #[v, .int .i64 t, .int .u64 a, .int .u64 0, .bool false, .int .i64 1] w fun e w' => e = .returned (.bool true) ∧ w = w' := by
  have HA := Lib.hid (z_first HN t a)
  clear HN
  go_enter Try.func27, Try.ntmps27
  go_wp2_with (go_at_call 45; refine HA.out.mono ?_; rintro e w1 ⟨rfl, rfl⟩)
  go_ret
  exact ⟨rfl, rfl⟩
end
set_option maxHeartbeats 4000000 in
set_option maxRecDepth 100000 in
theorem nil_walk (t since now : Int) (w : World) :
    Calls Try.prog 5 #[.int .i64 t, .int .u64 since, .int .u64 now] w fun e w' => e = .returned (.bool true) ∧ Below w.heap.size w w' := by
  go_enter Try.func5, Try.ntmps5
  go_wp2_with fail
  have hb : Below w.heap.size w ((w.alloc (.cells #[.int .u64 0, .int .u64 0, .int .u64 0, .map none] 60)).alloc (.cells #[.pointer none, .pointer (some ⟨w.heap.size, 0, none⟩)] 29)) := ((Below.refl _ _).alloc (Nat.le_refl _) _).alloc (by simp) _
  have hz := Blk.alloc (Blk.new w 60 #[.int .u64 0, .int .u64 0, .int .u64 0, .map none]) (.cells #[.pointer none, .pointer (some ⟨w.heap.size, 0, none⟩)] 29)
  have zb := Blk.new (w.alloc (.cells #[.int .u64 0, .int .u64 0, .int .u64 0, .map none] 60)) 29 #[.pointer none, .pointer (some ⟨w.heap.size, 0, none⟩)]
  rw [show (w.alloc (.cells #[.int .u64 0, .int .u64 0, .int .u64 0, .map none] 60)).heap.size = w.heap.size + 1 by simp] at zb
  have HZ := Lib.hid hz
  have HZB := Lib.hid zb
  have HB := Lib.hid hb
  clear hz zb hb
  generalize ((w.alloc (.cells #[.int .u64 0, .int .u64 0, .int .u64 0, .map none] 60)).alloc (.cells #[.pointer none, .pointer (some ⟨w.heap.size, 0, none⟩)] 29)) = W at *
  have HK := Lib.hid (fun w' : World => known_any w')
  have H0 := Lib.hid (fun (w' : World) (_ : Below W.heap.size W w') => (nos_nil w' : NoS (.pointer none) w'))
  have H1 := Lib.hid (fun (w' : World) (h : Below W.heap.size W w') => (nos_zero w.heap.size w' (HZ.out.below h HZ.out.lt) : NoS (.pointer (some ⟨w.heap.size, 0, none⟩)) w'))
  go_loopg [19] 2 (fun r i wr => ∃ j : Nat, j ≤ 2 ∧ r + j = 2 ∧ i = .int .i64 j ∧ Below W.heap.size W wr)
  case atStart => exact ⟨0, by omega, by omega, rfl, Below.refl _ _⟩
  case round =>
    obtain ⟨j, hj, hr, rfl, hbr⟩ := hrel
    have HBR := Lib.hid hbr
    have zb := HZB.out.below hbr HZB.out.lt
    have c0 := zb.cell 0
    have c1 := zb.cell 1
    simp only [List.getElem?_toArray, List.getElem?_cons_zero, List.getElem?_cons_succ] at c0 c1
    clear zb hbr
    rcases (by omega : j = 0 ∨ j = 1 ∨ j = 2) with rfl | rfl | rfl
    · clear c1
      have HN := Lib.hid (fun (w' : World) (hb : Below wr.heap.size wr w') => H0.out w' (HBR.out.trans (hb.mono HBR.out.size)))
      have HN0 := Lib.hid (HN.out wr (Below.refl _ _))
      go_wp2_with (first
        | (go_at_call 25; refine (z_hard HN0.out t now).mono ?_; rintro e w1 ⟨rfl, rfl⟩)
        | (go_at_call 26; refine (z_soft HN0.out t now).mono ?_; rintro e w1 ⟨rfl, rfl⟩)
        | (go_at_call 15; refine (z_other HN0.out now).mono ?_; rintro e w1 ⟨rfl, rfl⟩)
        | (go_at_call 16; refine (z_adv HN0.out now).mono ?_; rintro e w1 ⟨rfl, rfl⟩)
        | (go_at_call 17; refine (z_forget HN0.out t).mono ?_; rintro e w1 ⟨rfl, rfl⟩)
        | (go_at_call 14; refine (gives_same _ _ _).mono ?_; rintro e w' ⟨rfl, rfl⟩))
      refine (z_ofl HN.out t).mono ?_
      rintro e w2 ⟨rfl, b2⟩
      have HN2 := Lib.hid (HN.out w2 b2)
      have HB2 := Lib.hid (HBR.out.trans (b2.mono HBR.out.size))
      clear HN HN0 b2
      go_wp2_with (first
        | (go_at_call 27; refine (z_firstl HN2.out t since).mono ?_; rintro e w1 ⟨rfl, rfl⟩)
        | (go_at_call 28; refine (z_tags HN2.out).mono ?_; rintro e w1 ⟨rfl, rfl⟩)
        | (go_at_call 20; refine (z_last HN2.out).mono ?_; rintro e w1 ⟨rfl, rfl⟩)
        | (go_at_call 23; refine (z_now HN2.out).mono ?_; rintro e w1 ⟨rfl, rfl⟩)
        | (go_at_call 29; refine (z_grace HN2.out).mono ?_; rintro e w1 ⟨rfl, rfl⟩)
        | (go_at_call 21; refine (z_list HN2.out).mono ?_; rintro e w1 ⟨rfl, rfl⟩)
        | (go_at_call 30; refine (z_copy HN2.out).mono ?_; rintro e w1 ⟨rfl, rfl⟩))
      go_roundg 1
      case measure => omega
      case rel => exact ⟨1, by omega, by omega, rfl, HB2.out⟩
    · clear c0
      have HN := Lib.hid (fun (w' : World) (hb : Below wr.heap.size wr w') => H1.out w' (HBR.out.trans (hb.mono HBR.out.size)))
      have HN0 := Lib.hid (HN.out wr (Below.refl _ _))
      go_wp2_with (first
        | (go_at_call 25; refine (z_hard HN0.out t now).mono ?_; rintro e w1 ⟨rfl, rfl⟩)
        | (go_at_call 26; refine (z_soft HN0.out t now).mono ?_; rintro e w1 ⟨rfl, rfl⟩)
        | (go_at_call 15; refine (z_other HN0.out now).mono ?_; rintro e w1 ⟨rfl, rfl⟩)
        | (go_at_call 16; refine (z_adv HN0.out now).mono ?_; rintro e w1 ⟨rfl, rfl⟩)
        | (go_at_call 17; refine (z_forget HN0.out t).mono ?_; rintro e w1 ⟨rfl, rfl⟩)
        | (go_at_call 14; refine (gives_same _ _ _).mono ?_; rintro e w' ⟨rfl, rfl⟩))
      refine (z_ofl HN.out t).mono ?_
      rintro e w2 ⟨rfl, b2⟩
      have HN2 := Lib.hid (HN.out w2 b2)
      have HB2 := Lib.hid (HBR.out.trans (b2.mono HBR.out.size))
      clear HN HN0 b2
      go_wp2_with (first
        | (go_at_call 27; refine (z_firstl HN2.out t since).mono ?_; rintro e w1 ⟨rfl, rfl⟩)
        | (go_at_call 28; refine (z_tags HN2.out).mono ?_; rintro e w1 ⟨rfl, rfl⟩)
        | (go_at_call 20; refine (z_last HN2.out).mono ?_; rintro e w1 ⟨rfl, rfl⟩)
        | (go_at_call 23; refine (z_now HN2.out).mono ?_; rintro e w1 ⟨rfl, rfl⟩)
        | (go_at_call 29; refine (z_grace HN2.out).mono ?_; rintro e w1 ⟨rfl, rfl⟩)
        | (go_at_call 21; refine (z_list HN2.out).mono ?_; rintro e w1 ⟨rfl, rfl⟩)
        | (go_at_call 30; refine (z_copy HN2.out).mono ?_; rintro e w1 ⟨rfl, rfl⟩))
      go_roundg 0
      case measure => omega
      case rel => exact ⟨2, by omega, by omega, rfl, HB2.out⟩
    · clear c0 c1
      go_wp2_with fail
      refine (HK.out _).mono ?_
      rintro e w1 ⟨rfl, b1⟩
      go_wp2_with fail
      go_ret
      exact ⟨rfl, HB.out.trans ((HBR.out.trans (b1.mono HBR.out.size)).mono HB.out.size)⟩
end Go.Proofs.Ytckdfnlleaifcaa
