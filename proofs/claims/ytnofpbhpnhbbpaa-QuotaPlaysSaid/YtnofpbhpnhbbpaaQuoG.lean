/- Contract of Wait. -/
import Derived.Test.YtnofpbhpnhbbpaaQuoE
import Derived.Deep.LoopGhost
namespace Go.Proofs.Ytnofpbhpnhbbpaa
set_option linter.unusedVariables false
open Go.RowKit Go.Maps Go.Sort

/-- The time that Wait finds. -/
structure WaitP (r : Rl) (a : Acc) (tt : Nat) (k : Int) (x : Nat) : Prop where
  lo : tt ≤ x
  hi : x ≤ (tt / r.P + 2) * r.P
  yes : allowsA r a x k = true
  no : x = tt ∨ (tt < x ∧ allowsA r a (x - 1) k = false)
def waitV (x : Nat) : Nat := if 4611686018427387904 < x then 18446744073709551615 else x
def neverB (r : Rl) (k : Int) : Bool := decide (r.C < 1) || decide ((r.B : Int) < k)
set_option maxHeartbeats 1000000 in
set_option maxRecDepth 100000 in
theorem wait_nil (t : Nat) (s : ByteArray) (k : Int) (w : World) : Calls Try.prog 14 #[.pointer none, .int .u64 (t : Int), .string s, .int .i64 k] w fun e w' => e = .returned (.tuple #[.int .u64 0, .int .i64 1]) ∧ w = w' := by
  go_enter Try.func14, Try.ntmps14
  go_wp2_with (go_at_call 22; refine (may_nil _ _ _ _).mono ?_; rintro e w' ⟨rfl, rfl⟩)
  go_ret2
  exact ⟨rfl, rfl⟩
set_option maxHeartbeats 1000000 in
set_option maxRecDepth 100000 in
theorem wait_bad (g b n : Nat) (r : Rl) (now : Nat) (m : List (List UInt8 × Acc)) (t : Nat) (s : ByteArray) (k : Int) (hs : s.size ≤ 140737488355328) (w : World) (h : Qb w g b n r now m) (hm : mayE t s.data.toList k ≠ 0) :
    Calls Try.prog 14 #[.pointer (some ⟨g, 0, none⟩), .int .u64 (t : Int), .string s, .int .i64 k] w fun e w' => e = .returned (.tuple #[.int .u64 0, .int .i64 (mayE t s.data.toList k)]) ∧ w = w' := by
  have HM := Lib.hid (may_at g r now b t s k hs w h.bk)
  have hE : (mayE t s.data.toList k == 0) = false := by simpa using hm
  have hE2 : (mayE t s.data.toList k != 0) = true := by simpa using hm
  generalize mayE t s.data.toList k = E at HM hE hE2 ⊢
  clear h hm
  go_enter Try.func14, Try.ntmps14
  go_wp2_with (go_at_call 22; refine HM.out.mono ?_; rintro e w' ⟨rfl, rfl⟩)
  go_ret2
  exact ⟨rfl, rfl⟩
set_option maxHeartbeats 1000000 in
set_option maxRecDepth 100000 in
theorem wait_never (g b n : Nat) (r : Rl) (now : Nat) (m : List (List UInt8 × Acc)) (t : Nat) (s : ByteArray) (k : Int) (hs : s.size ≤ 140737488355328) (w : World) (h : Qb w g b n r now m) (hm : mayE t s.data.toList k = 0) (hv : neverB r k = true) :
    Calls Try.prog 14 #[.pointer (some ⟨g, 0, none⟩), .int .u64 (t : Int), .string s, .int .i64 k] w fun e w' => e = .returned (.tuple #[.int .u64 18446744073709551615, .int .i64 0]) ∧ w = w' := by
  have HM := Lib.hid (may_at g r now b t s k hs w h.bk)
  rw [hm] at HM
  obtain ⟨c0, c1, c2, c3, c4⟩ := h.bk.cells
  have H : (r.C : Int) < 1 ∨ (r.B : Int) < k := by
    unfold neverB at hv
    rw [Bool.or_eq_true, decide_eq_true_eq, decide_eq_true_eq] at hv
    omega
  clear h hm hv
  rcases H with h1 | h1
  · go_enter Try.func14, Try.ntmps14
    go_wp2_with (go_at_call 22; refine HM.out.mono ?_; rintro e w' ⟨rfl, rfl⟩)
    go_ret2
    exact ⟨rfl, rfl⟩
  · by_cases h2 : (r.C : Int) < 1
    · go_enter Try.func14, Try.ntmps14
      go_wp2_with (go_at_call 22; refine HM.out.mono ?_; rintro e w' ⟨rfl, rfl⟩)
      go_ret2
      exact ⟨rfl, rfl⟩
    · go_enter Try.func14, Try.ntmps14
      go_wp2_with (go_at_call 22; refine HM.out.mono ?_; rintro e w' ⟨rfl, rfl⟩)
      go_ret2
      exact ⟨rfl, rfl⟩
set_option maxHeartbeats 4000000 in
set_option maxRecDepth 100000 in
theorem wait_ok (g b n : Nat) (r : Rl) (now : Nat) (m : List (List UInt8 × Acc)) (hr : RlOk r) (t : Nat) (s : ByteArray) (k : Int) (hs : s.size ≤ 140737488355328) (ht : max now t ≤ 4611686018427387904) (w : World) (h : Qb w g b n r now m) (hm : mayE t s.data.toList k = 0) (hv : neverB r k = false)
    (hw : (mget accZ m s.data.toList).w ≤ max now t / r.P) :
    Calls Try.prog 14 #[.pointer (some ⟨g, 0, none⟩), .int .u64 (t : Int), .string s, .int .i64 k] w fun e w' => ∃ x : Nat, e = .returned (.tuple #[.int .u64 (waitV x : Int), .int .i64 0]) ∧ WaitP r (mget accZ m s.data.toList) (max now t) k x ∧ Below w.heap.size w w' := by
  have HM := Lib.hid (may_at g r now b t s k hs w h.bk)
  rw [hm] at HM
  have HE := Lib.hid (fun W => effective_any now t W)
  generalize max now t = tt at ht HE hw ⊢
  have hlk := look_any h.mp (s := s) (by unfold maxLen; omega)
  have hA := mget_ok h.mp accZ_ok s.data.toList
  generalize mget accZ m s.data.toList = a at hlk hA hw ⊢
  have hn1 : (1 : Int) ≤ (r.C : Int) := by
    unfold neverB at hv
    rw [Bool.or_eq_false_iff, decide_eq_false_iff_not, decide_eq_false_iff_not] at hv
    omega
  have hn2 : k ≤ (r.B : Int) := by
    unfold neverB at hv
    rw [Bool.or_eq_false_iff, decide_eq_false_iff_not, decide_eq_false_iff_not] at hv
    omega
  have hP := hr.P
  have hP2 := hr.P2
  have hPn : r.P ≠ 0 := by omega
  -- the far end
  have hfar : allowsA r a ((tt / r.P + 2) * r.P) k = true := allows_far hw (by rw [Nat.mul_div_cancel _ (by omega)]; exact Nat.le_refl _) (by omega) hn2
  have hmod := Nat.div_add_mod tt r.P
  have hlt := Nat.mod_lt tt (show r.P > 0 by omega)
  have hmul : (tt / r.P + 2) * r.P = r.P * (tt / r.P) + 2 * r.P := by rw [Nat.add_mul, Nat.mul_comm]
  have hq : tt / r.P ≤ tt := Nat.div_le_self _ _
  have e1 : ((tt / r.P : Nat) : Int) = (tt : Int) / (r.P : Int) := by simp
  have q0 : IntKind.u64.wrap ((tt : Int) / (r.P : Int)) = (tt : Int) / (r.P : Int) := by rw [← e1]; generalize tt / r.P = q at hq ⊢; exact IntWalk.u64_in _ (by omega)
  have q1 : IntKind.u64.wrap ((tt : Int) / (r.P : Int) + 2) = (tt : Int) / (r.P : Int) + 2 := by rw [← e1]; generalize tt / r.P = q at hq ⊢; exact IntWalk.u64_in _ (by omega)
  have q2 : IntKind.u64.wrap (((tt : Int) / (r.P : Int) + 2) * (r.P : Int)) = (((tt / r.P + 2) * r.P : Nat) : Int) := by
    have e2 : ((tt : Int) / (r.P : Int) + 2) * (r.P : Int) = (((tt / r.P + 2) * r.P : Nat) : Int) := by push_cast; rfl
    rw [e2]
    generalize (tt / r.P + 2) * r.P = z at hmul ⊢
    exact IntWalk.u64_in _ (by omega)
  have hhi : (tt / r.P + 2) * r.P ≤ 4620000000000000000 := by omega
  have hlo : tt ≤ (tt / r.P + 2) * r.P := by omega
  have HPD : Hid (∀ x, tt ≤ x → x ≤ (tt / r.P + 2) * r.P → allowsA r a x k = true → (x = tt ∨ (tt < x ∧ allowsA r a (x - 1) k = false)) → WaitP r a tt k x) := Lib.hid (fun x h1 h2 h3 h4 => ⟨h1, h2, h3, h4⟩)
  generalize (tt / r.P + 2) * r.P = hi0 at hfar q2 hhi hlo HPD
  obtain ⟨c0, c1, c2, c3, c4⟩ := h.bk.cells
  have hg := h.bk.lt
  have HAL := Lib.hid (fun (x : Nat) (hx : x ≤ 9223372036854775808) (W : World) (hW : BkC W g r now b) => allows_any g r now b a x k hr hA hx W hW)
  have HFAR := Lib.hid hfar
  obtain ⟨v0, m0, m1, d0, d1⟩ := a
  unfold accV at hlk HAL
  have HB := Lib.hid h.bk
  clear h hm hv hw hA hfar hmod hlt hmul hq e1 hr
  go_enter Try.func14, Try.ntmps14
  go_wp2_with (first
    | (go_at_call 22; refine HM.out.mono ?_; rintro e w' ⟨rfl, rfl⟩)
    | (go_at_call 23; refine (HE.out _).mono ?_; rintro e w' ⟨rfl, rfl⟩))
  have hb0 := (Below.refl w.heap.size w).alloc (Nat.le_refl _) (.cells #[.int .u64 (v0 : Int), .int .i64 (m0 : Int), .int .i64 (m1 : Int), .int .i64 (d0 : Int), .int .i64 (d1 : Int)] 71)
  have hz := Blk.new w 71 #[.int .u64 (v0 : Int), .int .i64 (m0 : Int), .int .i64 (m1 : Int), .int .i64 (d0 : Int), .int .i64 (d1 : Int)]
  have hk := Blk.alloc HB.out (.cells #[.int .u64 (v0 : Int), .int .i64 (m0 : Int), .int .i64 (m1 : Int), .int .i64 (d0 : Int), .int .i64 (d1 : Int)] 71)
  obtain ⟨W, hW⟩ : ∃ W, w.alloc (.cells #[.int .u64 (v0 : Int), .int .i64 (m0 : Int), .int .i64 (m1 : Int), .int .i64 (d0 : Int), .int .i64 (d1 : Int)] 71) = W := ⟨_, rfl⟩
  rw [hW] at hb0 hz hk ⊢
  clear hW c0 c1 c2 c3 c4 HB hlk HM HE
  obtain ⟨c0, c1, c2, c3, c4⟩ := BkC.cells hk
  go_quiet (fail)
  have HZ := Lib.hid (show Blk (W.drewN nq) _ _ _ from hz.drewN nq)
  have HK := Lib.hid (show BkC (W.drewN nq) g r now b from Blk.drewN hk nq)
  have HBL := Lib.hid (below_drewN hb0 nq)
  obtain ⟨W1, hW1⟩ : ∃ W1, W.drewN nq = W1 := ⟨_, rfl⟩
  rw [hW1] at HZ HK HBL ⊢
  clear hW1 c0 c1 c2 c3 c4 hb0 hz hk
  go_wp2_with fail
  go_loopg [12, 13] (hi0 - tt) (fun q s12 s13 wr => ∃ lo hi : Nat, q = hi - lo ∧ lo ≤ hi ∧ tt ≤ lo ∧ hi ≤ hi0 ∧ s12 = .int .u64 (lo : Int) ∧ s13 = .int .u64 (hi : Int) ∧ (lo = tt ∨ (tt < lo ∧ allowsA r ⟨v0, m0, m1, d0, d1⟩ (lo - 1) k = false)) ∧ allowsA r ⟨v0, m0, m1, d0, d1⟩ hi k = true ∧ Blk wr w.heap.size 71 #[.int .u64 (v0 : Int), .int .i64 (m0 : Int), .int .i64 (m1 : Int), .int .i64 (d0 : Int), .int .i64 (d1 : Int)] ∧ BkC wr g r now b ∧ Below w.heap.size w wr)
  case atStart => exact ⟨tt, hi0, rfl, hlo, Nat.le_refl _, Nat.le_refl _, rfl, rfl, .inl rfl, HFAR.out, HZ.out, HK.out, HBL.out⟩
  case round =>
    clear HZ HK HBL
    obtain ⟨lo, hi, hq, hlh, htl, hhh, rfl, rfl, hno, hyes, hz, hk, hb⟩ := hrel
    have HQ := Lib.hid hq
    have HNO := Lib.hid hno
    have HYES := Lib.hid hyes
    have HZ := Lib.hid hz
    have HK := Lib.hid hk
    have HBL := Lib.hid hb
    clear hq hno hyes hb
    by_cases hlt : lo < hi
    · obtain ⟨mid, hmid⟩ : ∃ mid : Nat, (mid : Int) = (lo : Int) + ((hi : Int) - (lo : Int)) / 2 := ⟨lo + (hi - lo) / 2, by omega⟩
      have hm1 : lo ≤ mid := by omega
      have hm2 : mid < hi := by omega
      have HMID := Lib.hid hmid
      have HC : Hid (∀ W : World, BkC W g r now b → Calls Try.prog 25 #[.pointer (some ⟨g, 0, none⟩), .agg #[.int .u64 (v0 : Int), .int .i64 (m0 : Int), .int .i64 (m1 : Int), .int .i64 (d0 : Int), .int .i64 (d1 : Int)], .int .u64 ((lo : Int) + ((hi : Int) - (lo : Int)) / 2), .int .i64 k] W fun e w' => e = .returned (.bool (allowsA r ⟨v0, m0, m1, d0, d1⟩ mid k)) ∧ Below W.heap.size W w') := by
        rw [← hmid]
        exact Lib.hid (fun W hW => HAL.out mid (by omega) W hW)
      clear hmid
      have y0 := hz.cell 0
      have y1 := hz.cell 1
      have y2 := hz.cell 2
      have y3 := hz.cell 3
      have y4 := hz.cell 4
      clear hz hk
      go_wp2_with fail
      refine (HC.out wr HK.out).mono ?_
      rintro e w1 ⟨rfl, b1⟩
      have HB1 := Lib.hid b1
      clear b1 y0 y1 y2 y3 y4
      cases hal : allowsA r ⟨v0, m0, m1, d0, d1⟩ mid k
      · have HA := Lib.hid hal
        clear hal
        go_wp2_with fail
        go_roundg (hi - (mid + 1))
        case measure => rw [HQ.out]; omega
        case rel => exact ⟨mid + 1, hi, rfl, by omega, by omega, hhh, congrArg (Value.int .u64) (by have := HMID.out; omega), rfl, .inr ⟨by omega, by rw [Nat.add_sub_cancel]; exact HA.out⟩, HYES.out, HZ.out.below HB1.out HZ.out.lt, Blk.below HK.out HB1.out (Blk.lt HK.out), HBL.out.trans (HB1.out.mono HBL.out.size)⟩
      · have HA := Lib.hid hal
        clear hal
        go_wp2_with fail
        go_roundg (mid - lo)
        case measure => rw [HQ.out]; omega
        case rel => exact ⟨lo, mid, rfl, by omega, by omega, by omega, rfl, congrArg (Value.int .u64) (by have := HMID.out; omega), HNO.out, HA.out, HZ.out.below HB1.out HZ.out.lt, Blk.below HK.out HB1.out (Blk.lt HK.out), HBL.out.trans (HB1.out.mono HBL.out.size)⟩
    · have hle : (hi : Int) ≤ (lo : Int) := by omega
      have HEQ := Lib.hid (show lo = hi by omega)
      clear hlt hz hk
      by_cases hbig : 4611686018427387904 < lo
      · have hb1 : (4611686018427387904 : Int) < (lo : Int) := by omega
        have HV := Lib.hid (show waitV lo = 18446744073709551615 from if_pos hbig)
        clear hbig
        go_wp2_with fail
        go_ret2
        exact ⟨lo, by rw [HV.out]; rfl, HPD.out lo htl (by omega) (by have := HYES.out; rw [← HEQ.out] at this; exact this) HNO.out, HBL.out⟩
      · have hb1 : (lo : Int) ≤ 4611686018427387904 := by omega
        have HV := Lib.hid (show waitV lo = lo from if_neg hbig)
        clear hbig
        go_wp2_with fail
        go_ret2
        exact ⟨lo, by rw [HV.out]; rfl, HPD.out lo htl (by omega) (by have := HYES.out; rw [← HEQ.out] at this; exact this) HNO.out, HBL.out⟩
end Go.Proofs.Ytnofpbhpnhbbpaa
