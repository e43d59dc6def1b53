/- A call of the law: Left, Wait, Copy. -/
import Derived.Test.YtnofpbhpnhbbpaaQuoPA
import Derived.Deep.RegionHeld3
namespace Go.Proofs.Ytnofpbhpnhbbpaa
set_option linter.unusedVariables false
open Go.RowKit Go.Maps Go.Sort

section
variable {V w : World} {r : Rl} {g b n now M : Nat} {m : List (List UInt8 × Acc)} {q : Option Addr} {cap : Nat} {L : List Alw}
set_option maxHeartbeats 2000000 in
set_option maxRecDepth 100000 in
theorem st_left_bad (h : Ps V w r g b n now m M q cap L) (hr : RlOk r) (hl : L.length ≤ 90) (hn : n ≤ 100) (k : Int) (t : Nat) (s : ByteArray) (hs : s.size ≤ 60) (hm : mayE t s.data.toList 0 ≠ 0) :
    Calls Try.prog 17 #[.pointer (some ⟨g, 0, none⟩), .pointer (some ⟨M, 0, none⟩), .agg #[.int .i64 1, .int .i64 k, .int .u64 (t : Int), .string s]] w (StP V r M n L.length) := by
  have HA := Lib.hid (fun (w' : World) (h' : Ps V w' r g b n now m M q cap L) => left_bad g b n r now m t s (by omega) w' h'.qb hm)
  have HB := Lib.hid (fun w' : World => bad_any t s 0 (by omega) w')
  have hE : (mayE t s.data.toList 0 == 0) = false := by simpa using hm
  have hE2 : (mayE t s.data.toList 0 != 0) = true := by simpa using hm
  clear hm
  generalize mayE t s.data.toList 0 = E at HA HB hE hE2
  go_enter Try.func17, Try.ntmps17
  go_wp2_with fail
  have h1 := h.quiet ((Below.refl w.heap.size w).alloc (Nat.le_refl _) (.cells #[.int .i64 1, .int .i64 k, .int .u64 (t : Int), .string s] 54))
  have ha := Blk.new w 54 #[.int .i64 1, .int .i64 k, .int .u64 (t : Int), .string s]
  generalize hx : w.heap.size = x at *
  generalize w.alloc (.cells #[.int .i64 1, .int .i64 k, .int .u64 (t : Int), .string s] 54) = W at *
  clear h hx
  obtain ⟨c0, c1, c2, c3, c4⟩ := h1.md.cells
  have a0 := ha.cell 0
  have a1 := ha.cell 1
  have a2 := ha.cell 2
  have a3 := ha.cell 3
  have HP := Lib.hid h1
  have HQ := Lib.hid (fun k : Nat => h1.quiet (below_drewN (Below.refl W.heap.size W) k))
  clear h1 ha
  go_quiet (fail)
  go_wp2_with (first
    | (go_at_call 13; refine (HA.out _ (HQ.out nq)).mono ?_; rintro e w1 ⟨rfl, rfl⟩)
    | (go_at_call 32; refine (HB.out _).mono ?_; rintro e w1 ⟨rfl, rfl⟩))
  go_ret2
  exact ⟨g, b, n, now, m, q, cap, L, rfl, HQ.out nq, by omega, by omega⟩
set_option maxHeartbeats 2000000 in
set_option maxRecDepth 100000 in
theorem st_wait_bad (h : Ps V w r g b n now m M q cap L) (hr : RlOk r) (hl : L.length ≤ 90) (hn : n ≤ 100) (k : Int) (t : Nat) (s : ByteArray) (hs : s.size ≤ 60) (hm : mayE t s.data.toList k ≠ 0) :
    Calls Try.prog 17 #[.pointer (some ⟨g, 0, none⟩), .pointer (some ⟨M, 0, none⟩), .agg #[.int .i64 2, .int .i64 k, .int .u64 (t : Int), .string s]] w (StP V r M n L.length) := by
  have HA := Lib.hid (fun (w' : World) (h' : Ps V w' r g b n now m M q cap L) => wait_bad g b n r now m t s k (by omega) w' h'.qb hm)
  have HB := Lib.hid (fun w' : World => bad_any t s k (by omega) w')
  have hE : (mayE t s.data.toList k == 0) = false := by simpa using hm
  have hE2 : (mayE t s.data.toList k != 0) = true := by simpa using hm
  clear hm
  generalize mayE t s.data.toList k = E at HA HB hE hE2
  go_enter Try.func17, Try.ntmps17
  go_wp2_with fail
  have h1 := h.quiet ((Below.refl w.heap.size w).alloc (Nat.le_refl _) (.cells #[.int .i64 2, .int .i64 k, .int .u64 (t : Int), .string s] 54))
  have ha := Blk.new w 54 #[.int .i64 2, .int .i64 k, .int .u64 (t : Int), .string s]
  generalize hx : w.heap.size = x at *
  generalize w.alloc (.cells #[.int .i64 2, .int .i64 k, .int .u64 (t : Int), .string s] 54) = W at *
  clear h hx
  obtain ⟨c0, c1, c2, c3, c4⟩ := h1.md.cells
  have a0 := ha.cell 0
  have a1 := ha.cell 1
  have a2 := ha.cell 2
  have a3 := ha.cell 3
  have HP := Lib.hid h1
  have HQ := Lib.hid (fun k : Nat => h1.quiet (below_drewN (Below.refl W.heap.size W) k))
  clear h1 ha
  go_quiet (fail)
  go_wp2_with (first
    | (go_at_call 14; refine (HA.out _ (HQ.out nq)).mono ?_; rintro e w1 ⟨rfl, rfl⟩)
    | (go_at_call 32; refine (HB.out _).mono ?_; rintro e w1 ⟨rfl, rfl⟩))
  go_ret2
  exact ⟨g, b, n, now, m, q, cap, L, rfl, HQ.out nq, by omega, by omega⟩
set_option maxHeartbeats 2000000 in
set_option maxRecDepth 100000 in
theorem st_left_ok (h : Ps V w r g b n now m M q cap L) (hr : RlOk r) (hl : L.length ≤ 90) (hn : n ≤ 100) (k : Int) (t : Nat) (s : ByteArray) (hs : s.size ≤ 60) (hm : mayE t s.data.toList 0 = 0) :
    Calls Try.prog 17 #[.pointer (some ⟨g, 0, none⟩), .pointer (some ⟨M, 0, none⟩), .agg #[.int .i64 1, .int .i64 k, .int .u64 (t : Int), .string s]] w (StP V r M n L.length) := by
  have ht2 : t ≤ 4611686018427387904 := (mayE_ok hm).2.2
  have hnw := h.nw
  obtain ⟨tt, htt⟩ : ∃ tt, tt = max now t := ⟨_, rfl⟩
  have hnt : now ≤ tt := by omega
  have htb : tt ≤ 4611686018427387904 := by omega
  have HM : Hid (max (now : Int) (t : Int) = (tt : Int)) := by unfold Hid; omega
  have hA0 := h.i.accOk hnt (by omega) s.data.toList (h.accOk s.data.toList)
  obtain ⟨hu0, hu1⟩ := h.i.used hnt s.data.toList
  have l0 := used0_le (h.accOk s.data.toList) hr.P (t := tt) (by omega)
  have l1 := used1_le (h.accOk s.data.toList) hr.P (t := tt) (by omega)
  have HA := Lib.hid (fun (w' : World) (h' : Ps V w' r g b n now m M q cap L) => by
    have := left_ok g b n r now m hr t s (by omega) (by omega) w' h'.qb hm
    rw [← htt] at this
    exact this)
  have HU := Lib.hid (fun (w' : World) (h' : Ps V w' r g b n now m M q cap L) => by
    have := mused_any h'.md hr (by omega) h'.kb s tt (by omega) hA0
    rw [hu0, hu1] at this
    exact this)
  generalize used0 r.P (mget accZ m s.data.toList) tt = x0 at HA HU l0
  generalize used1 r.P (mget accZ m s.data.toList) tt = x1 at HA HU l1
  have HB := Lib.hid (fun w' : World => bad_any t s 0 (by omega) w')
  rw [hm] at HB
  have hC := hr.C
  have hB := hr.B
  have q0 : IntKind.i64.wrap ((r.C : Int) - (x0 : Int)) = (r.C : Int) - (x0 : Int) := IntWalk.i64_in _ (by omega)
  have q1 : IntKind.i64.wrap ((r.B : Int) - (x1 : Int)) = (r.B : Int) - (x1 : Int) := IntWalk.i64_in _ (by omega)
  unfold leftA at HA
  clear hm hu0 hu1 htt hA0
  go_enter Try.func17, Try.ntmps17
  go_wp2_with fail
  have h1 := h.quiet ((Below.refl w.heap.size w).alloc (Nat.le_refl _) (.cells #[.int .i64 1, .int .i64 k, .int .u64 (t : Int), .string s] 54))
  have ha := Blk.new w 54 #[.int .i64 1, .int .i64 k, .int .u64 (t : Int), .string s]
  generalize hx : w.heap.size = x at *
  generalize w.alloc (.cells #[.int .i64 1, .int .i64 k, .int .u64 (t : Int), .string s] 54) = W at *
  clear h hx
  obtain ⟨c0, c1, c2, c3, c4⟩ := h1.md.cells
  have a0 := ha.cell 0
  have a1 := ha.cell 1
  have a2 := ha.cell 2
  have a3 := ha.cell 3
  have HX := Lib.hid ha
  have HQ := Lib.hid (fun k : Nat => h1.quiet (below_drewN (Below.refl W.heap.size W) k))
  clear h1 ha
  go_quiet (fail)
  rw [HM.out]
  go_wp2_with fail
  refine (HA.out _ (HQ.out nq)).mono ?_
  rintro e w1 ⟨rfl, b1⟩
  have h2 := (HQ.out nq).quiet b1
  have hx2 := (Blk.drewN HX.out nq).below b1 (Blk.drewN HX.out nq).lt
  clear HA HQ HX c0 c1 c2 c3 c4 a0 a1 a2 a3 b1
  obtain ⟨c0, c1, c2, c3, c4⟩ := h2.md.cells
  have a0 := hx2.cell 0
  have a1 := hx2.cell 1
  have a2 := hx2.cell 2
  have a3 := hx2.cell 3
  have H2 := Lib.hid h2
  clear h2 hx2
  go_wp2_with (go_at_call 32; refine (HB.out _).mono ?_; rintro e w1 ⟨rfl, rfl⟩)
  refine (HU.out _ H2.out).mono ?_
  rintro e w2 ⟨rfl, b2⟩
  have h3 := H2.out.quiet b2
  clear HU H2 c0 c1 c2 c3 c4 a0 a1 a2 a3 b2
  obtain ⟨c0, c1, c2, c3, c4⟩ := h3.md.cells
  have H3 := Lib.hid h3
  clear h3
  go_wp2_with fail
  go_ret2
  exact ⟨g, b, n, now, m, q, cap, L, rfl, H3.out, by omega, by omega⟩
end
end Go.Proofs.Ytnofpbhpnhbbpaa
