/- A call of the law: Copy; any call. -/
import Derived.Test.YtnofpbhpnhbbpaaQuoPD
namespace Go.Proofs.Ytnofpbhpnhbbpaa
set_option linter.unusedVariables false
open Go.RowKit Go.Maps Go.Sort

def AskS (g b n M : Nat) (r : Rl) (w : World) (e : Ending) (w' : World) : Prop := ∃ v1 v2 n' now' m', e = .returned (.tuple #[.bool v1, .int .i64 v2]) ∧ Qb w' g b n' r now' m' ∧ n' ≤ n + 1 ∧ now' ≤ M ∧ Only (fun i => i = g ∨ i = b) w w'
theorem ask_some {w : World} {g b n : Nat} {r : Rl} {now : Nat} {m : List (List UInt8 × Acc)} (h : Qb w g b n r now m) (hr : RlOk r) (t : Nat) (s : ByteArray) (k : Nat) (hs : s.size ≤ 140737488355328) (ht : max now t ≤ 9223372036854775808) (hn : n ≤ 1000000) :
    Calls Try.prog 9 #[.pointer (some ⟨g, 0, none⟩), .int .u64 (t : Int), .string s, .int .i64 (k : Int)] w (AskS g b n (max now t) r w) := by
  by_cases hm : mayE t s.data.toList k = 0
  · refine (ask_ok g b n r now m hr t s k hs ht w h hm hn).mono ?_
    rintro e w' ⟨rfl, h1, h2⟩
    exact ⟨_, _, _, _, _, rfl, h1, Nat.le_refl _, Nat.le_refl _, h2⟩
  · refine (ask_bad g b n r now m t s k hs w h hm).mono ?_
    rintro e w' ⟨rfl, rfl⟩
    exact ⟨_, _, _, _, _, rfl, h, Nat.le_succ _, by omega, Only.refl _ _⟩
section
variable {V w w' : World} {r : Rl} {g b n now M : Nat} {m : List (List UInt8 × Acc)} {q : Option Addr} {cap : Nat} {L : List Alw}
theorem Ps.copied (h : Ps V w r g b n now m M q cap L) (hb : Below w.heap.size w w') {g' b' : Nat} (q2 : Qb w' g' b' n r now m) (hg : w.heap.size ≤ g') (hb' : w.heap.size ≤ b') : Ps V w' r g' b' n now m M q cap L :=
  ⟨q2, h.md.below hb, h.i, h.kb, by have := h.md.bk.lt; omega, by have := h.md.bk.lt; omega, fun e => by have := (h.md.row.lt _ e).2; omega, fun e => by have := (h.md.row.lt _ e).2; omega, Nat.le_trans h.bel.size hg, Nat.le_trans h.bel.size hb', h.v3, h.nw, h.bel.trans (hb.mono h.bel.size)⟩
/-- What stays when another book turns. -/
structure Apt (V : World) (M g b g' b' : Nat) (o : Option Nat) : Prop where
  a1 : g' ≠ g
  a2 : g' ≠ b
  a3 : b' ≠ g
  a4 : b' ≠ b
  a5 : M ≠ g
  a6 : M ≠ b
  a7 : o ≠ some g
  a8 : o ≠ some b
  v1 : V.heap.size ≤ g
  v2 : V.heap.size ≤ b
theorem Ps.other {g' b' : Nat} (h : Ps V w r g' b' n now m M q cap L) (a : Apt V M g b g' b' (Value.slice q L.length cap).ownBlock) (ho : Only (fun i => i = g ∨ i = b) w w') : Ps V w' r g' b' n now m M q cap L := by
  obtain ⟨a1, a2, a3, a4, a5, a6, a7, a8, v1, v2⟩ := a
  refine ⟨h.qb.only ho (by omega) (by omega), h.md.only ho (by omega) (fun i hi hs => ?_), h.i, h.kb, h.d1, h.d2, h.d3, h.d4, h.v1, h.v2, h.v3, h.nw, h.bel.trans (ho.below (fun i hi => by omega) h.bel.size)⟩
  rcases hs with rfl | rfl
  · exact a7 hi
  · exact a8 hi
theorem Ps.apt (h : Ps V w r g b n now m M q cap L) {g' b' : Nat} (hg : w.heap.size ≤ g') (hb' : w.heap.size ≤ b') : Apt V M g b g' b' (Value.slice q L.length cap).ownBlock :=
  ⟨by have := h.qb.bk.lt; omega, by have := h.qb.mp.lt; omega, by have := h.qb.bk.lt; omega, by have := h.qb.mp.lt; omega, h.d1, h.d2, h.d3, h.d4, h.v1, h.v2⟩
set_option maxHeartbeats 4000000 in
set_option maxRecDepth 100000 in
theorem st_copy (h : Ps V w r g b n now m M q cap L) (hr : RlOk r) (hl : L.length ≤ 90) (hn : n ≤ 100) (wh k : Int) (t : Nat) (s : ByteArray) (hs : s.size ≤ 60) (h0 : wh ≠ 0) (h1 : wh ≠ 1) (h2 : wh ≠ 2) (ht9 : t ≤ 18446744073709551615) :
    Calls Try.prog 17 #[.pointer (some ⟨g, 0, none⟩), .pointer (some ⟨M, 0, none⟩), .agg #[.int .i64 wh, .int .i64 k, .int .u64 (t : Int), .string s]] w (StP V r M n L.length) := by
  have hnw := h.nw
  have e0 : (wh == 0) = false := beq_eq_false_iff_ne.2 h0
  have e1 : (wh == 1) = false := beq_eq_false_iff_ne.2 h1
  have e2 : (wh == 2) = false := beq_eq_false_iff_ne.2 h2
  clear h0 h1 h2
  have HZ := Lib.hid (fun (w' : World) (n' now' : Nat) (m' : List (List UInt8 × Acc)) (h' : Qb w' g b n' r now' m') (hn' : n' ≤ 1000) (hnn : max now' now ≤ 9223372036854775808) (s : ByteArray) (hs : s.size ≤ 140737488355328) (k : Nat) => ask_some h' hr now s k hs hnn (by omega))
  have HC := Lib.hid (fun (w' : World) (h' : Ps V w' r g b n now m M q cap L) => copy_any g b n r now m w' h'.qb)
  go_enter Try.func17, Try.ntmps17
  go_wp2_with fail
  have h1 := h.quiet ((Below.refl w.heap.size w).alloc (Nat.le_refl _) (.cells #[.int .i64 wh, .int .i64 k, .int .u64 (t : Int), .string s] 54))
  have ha := Blk.new w 54 #[.int .i64 wh, .int .i64 k, .int .u64 (t : Int), .string s]
  have hgx : w.heap.size ≠ g := by have := h.qb.bk.lt; omega
  have hbx : w.heap.size ≠ b := by have := h.qb.mp.lt; omega
  generalize hx : w.heap.size = x at *
  generalize w.alloc (.cells #[.int .i64 wh, .int .i64 k, .int .u64 (t : Int), .string s] 54) = W at *
  clear h hx
  obtain ⟨c0, c1, c2, c3, c4⟩ := h1.md.cells
  have a0 := ha.cell 0
  have a1 := ha.cell 1
  have a2 := ha.cell 2
  have a3 := ha.cell 3
  have HX := Lib.hid ha
  have HQ := Lib.hid (fun k : Nat => h1.quiet (below_drewN (Below.refl W.heap.size W) k))
  clear h1 ha
  go_quiet (fail)
  go_wp2_with fail
  refine (HC.out _ (HQ.out nq)).mono ?_
  rintro e w1 ⟨g', b', rfl, q1, hg1, hb1, bl1⟩
  have hp := (HQ.out nq).copied bl1 q1 hg1 hb1
  have hap := Lib.hid ((HQ.out nq).apt hg1 hb1)
  have hold := (HQ.out nq).qb.below bl1
  have hx1 := (Blk.drewN HX.out nq).below bl1 (Blk.drewN HX.out nq).lt
  clear HX HQ HC c0 c1 c2 c3 c4 a0 a1 a2 a3 q1 hg1 hb1 bl1
  obtain ⟨c0, c1, c2, c3, c4⟩ := hp.md.cells
  have HP := Lib.hid hp
  have HO := Lib.hid hold
  have HX := Lib.hid hx1
  clear hp hold hx1
  go_wp2_with fail
  refine (HZ.out _ _ _ _ HO.out (by omega) (by omega) ⟨#[122, 122]⟩ (by decide) 0).mono ?_
  rintro e w2 ⟨v1, v2, n2, now2, m2, rfl, q2, hn2, hw2, o2⟩
  have hp2 := HP.out.other hap.out o2
  have hx2 := HX.out.only o2 (by omega)
  clear HX HP HO c0 c1 c2 c3 c4
  obtain ⟨c0, c1, c2, c3, c4⟩ := hp2.md.cells
  have a3 := hx2.cell 3
  have HP := Lib.hid hp2
  have HO := Lib.hid (fun j : Nat => q2.below (below_drewN (Below.refl w2.heap.size w2) j))
  have HQ := Lib.hid (fun j : Nat => hp2.quiet (below_drewN (Below.refl w2.heap.size w2) j))
  clear hp2 hx2 q2 o2
  go_wp2_with fail
  go_still_tail 7, (by kernel_rfl)
  change wpList _ _ _ _ _ w2.drew
  go_wp2_with fail
  refine (HZ.out _ _ _ _ (HO.out 1) (by omega) (by omega) s (by omega) 1).mono ?_
  rintro e w3 ⟨v1, v2, n3, now3, m3, rfl, q3, hn3, hw3, o3⟩
  have hp3 := Lib.hid ((HQ.out 1).other hap.out o3)
  clear HQ HO HZ c0 c1 c2 c3 c4 a3 q3 o3
  go_wp2_with fail
  go_ret2
  exact ⟨g', b', n, now, m, q, cap, L, rfl, hp3.out, by omega, by omega⟩
end
end Go.Proofs.Ytnofpbhpnhbbpaa
