/- A call of the law: Wait. -/
import Derived.Test.YtnofpbhpnhbbpaaQuoPB
namespace Go.Proofs.Ytnofpbhpnhbbpaa
set_option linter.unusedVariables false
open Go.RowKit Go.Maps Go.Sort

section
variable {V w : World} {r : Rl} {g b n now M : Nat} {m : List (List UInt8 × Acc)} {q : Option Addr} {cap : Nat} {L : List Alw}
theorem Ps.allowsAt (h : Ps V w r g b n now m M q cap L) (hr : RlOk r) (hl : L.length ≤ 90) (s : ByteArray) (x : Nat) (k : Int) (hx : now ≤ x) (hx9 : x ≤ 9223372036854775808) (h0 : 0 ≤ k) (h9 : k ≤ 9223372036854775807) :
    Calls Try.prog 33 #[.pointer (some ⟨M, 0, none⟩), .string s, .int .u64 (x : Int), .int .i64 k] w fun e w' => e = .returned (.bool (allowsA r (mget accZ m s.data.toList) x k)) ∧ Below w.heap.size w w' := by
  have := mallows_any h.md hr (by omega) h.kb s x k hx9 (h.i.accOk hx (by omega) s.data.toList (h.accOk s.data.toList)) h0 h9
  rw [h.i.allows hx] at this
  exact this
set_option maxHeartbeats 4000000 in
set_option maxRecDepth 100000 in
theorem st_wait_never (h : Ps V w r g b n now m M q cap L) (hr : RlOk r) (hl : L.length ≤ 90) (hn : n ≤ 100) (k : Int) (t : Nat) (s : ByteArray) (hs : s.size ≤ 60) (hm : mayE t s.data.toList k = 0) (hv : neverB r k = true) :
    Calls Try.prog 17 #[.pointer (some ⟨g, 0, none⟩), .pointer (some ⟨M, 0, none⟩), .agg #[.int .i64 2, .int .i64 k, .int .u64 (t : Int), .string s]] w (StP V r M n L.length) := by
  have ht2 : t ≤ 4611686018427387904 := (mayE_ok hm).2.2
  have hnw := h.nw
  obtain ⟨tt, htt⟩ : ∃ tt, tt = max now t := ⟨_, rfl⟩
  have htb : tt ≤ 4611686018427387904 := by omega
  have HM : Hid (max (now : Int) (t : Int) = (tt : Int)) := by unfold Hid; omega
  have HA := Lib.hid (fun (w' : World) (h' : Ps V w' r g b n now m M q cap L) => wait_never g b n r now m t s k (by omega) w' h'.qb hm hv)
  have HB := Lib.hid (fun w' : World => bad_any t s k (by omega) w')
  rw [hm] at HB
  have hC := hr.C
  have hB := hr.B
  have hP := hr.P
  have hPn : r.P ≠ 0 := by omega
  have hP0' : ((r.P : Int) == 0) = false := by rw [beq_eq_false_iff_ne]; omega
  obtain ⟨Q, hQ⟩ : ∃ Q, Q = tt / r.P := ⟨_, rfl⟩
  have hq : Q ≤ tt := by rw [hQ]; exact Nat.div_le_self _ _
  have hdiv : (tt : Int) / (r.P : Int) = (Q : Int) := by rw [hQ]; simp
  have hwq : IntKind.u64.wrap (Q : Int) = (Q : Int) := IntWalk.u64_in _ (by omega)
  have hwq2 : IntKind.u64.wrap ((Q : Int) + 2) = (Q : Int) + 2 := IntWalk.u64_in _ (by omega)
  obtain ⟨Z, hZ⟩ : ∃ Z, Z = 4611686018427387904 / r.P := ⟨_, rfl⟩
  have hz : Z ≤ 4611686018427387904 := by rw [hZ]; exact Nat.div_le_self _ _
  have hdivz : (4611686018427387904 : Int) / (r.P : Int) = (Z : Int) := by rw [hZ]; simp
  have hwz : IntKind.u64.wrap (Z : Int) = (Z : Int) := IntWalk.u64_in _ (by omega)
  have H : (r.C : Int) < 1 ∨ ((r.C : Int) < 1) = False ∧ (r.B : Int) < k := by
    unfold neverB at hv
    rw [Bool.or_eq_true, decide_eq_true_eq, decide_eq_true_eq] at hv
    by_cases e : (r.C : Int) < 1
    · exact .inl e
    · exact .inr ⟨by simp [e], by omega⟩
  clear hm htt hQ hZ hv
  rcases H with h1C | ⟨h1C, h1B⟩
  all_goals
    go_enter Try.func17, Try.ntmps17
    go_wp2_with fail
    have h1 := h.quiet ((Below.refl w.heap.size w).alloc (Nat.le_refl _) (.cells #[.int .i64 2, .int .i64 k, .int .u64 (t : Int), .string s] 54))
    have ha := Blk.new w 54 #[.int .i64 2, .int .i64 k, .int .u64 (t : Int), .string s]
    generalize hx : w.heap.size = x at *
    generalize w.alloc (.cells #[.int .i64 2, .int .i64 k, .int .u64 (t : Int), .string s] 54) = W at *
    clear h hx
    obtain ⟨c0, c1, c2, c3, c4⟩ := h1.md.cells
    have a0 := ha.cell 0
    have a1 := ha.cell 1
    have a2 := ha.cell 2
    have a3 := ha.cell 3
    have HP := Lib.hid h1
    have HQ := Lib.hid (fun k : Nat => h1.quiet (below_drewN (Below.refl W.heap.size W) k))
    clear h1 ha
    have WW := Lib.hid (And.intro (And.intro hdiv hwq) (And.intro hwq2 (And.intro hdivz hwz)))
    clear hdiv hwq hwq2 hdivz hwz
    go_quiet (fail)
    rw [HM.out]
    go_wp2_with (first
      | (go_at_call 14; refine (HA.out _ (HQ.out nq)).mono ?_; rintro e w1 ⟨rfl, rfl⟩)
      | (go_at_call 32; refine (HB.out _).mono ?_; rintro e w1 ⟨rfl, rfl⟩))
    obtain ⟨⟨hdiv, hwq⟩, hwq2, hdivz, hwz⟩ := WW.out
    clear WW
    go_quiet (fail)
    go_wp2_with fail
    clear hdiv hwq hwq2 hdivz hwz
    go_quiet (fail)
    go_wp2_with fail
    go_ret2
    exact ⟨g, b, n, now, m, q, cap, L, rfl, (HQ.out _).quiet (below_drewN (below_drewN (Below.refl _ _) _) _), by omega, by omega⟩
end
end Go.Proofs.Ytnofpbhpnhbbpaa
