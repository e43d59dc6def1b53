/- A call of the law: Wait, which finds a time. -/
import Derived.Test.YtnofpbhpnhbbpaaQuoPC
namespace Go.Proofs.Ytnofpbhpnhbbpaa
set_option linter.unusedVariables false
open Go.RowKit Go.Maps Go.Sort

section
variable {V w : World} {r : Rl} {g b n now M : Nat} {m : List (List UInt8 × Acc)} {q : Option Addr} {cap : Nat} {L : List Alw}
theorem late_of {P tt x : Nat} (h1 : x ≤ (tt / P + 2) * P) (h2 : 4611686018427387904 < x) : 4611686018427387904 / P < tt / P + 2 := by
  apply Classical.byContradiction
  intro e
  have h3 : (tt / P + 2) * P ≤ 4611686018427387904 / P * P := Nat.mul_le_mul_right _ (by omega)
  have h4 := Nat.div_mul_le_self 4611686018427387904 P
  omega
set_option maxHeartbeats 4000000 in
set_option maxRecDepth 100000 in
theorem st_wait_ok (h : Ps V w r g b n now m M q cap L) (hr : RlOk r) (hl : L.length ≤ 90) (hn : n ≤ 100) (k : Int) (h9 : k ≤ 9223372036854775807) (t : Nat) (s : ByteArray) (hs : s.size ≤ 60) (hm : mayE t s.data.toList k = 0) (hv : neverB r k = false) :
    Calls Try.prog 17 #[.pointer (some ⟨g, 0, none⟩), .pointer (some ⟨M, 0, none⟩), .agg #[.int .i64 2, .int .i64 k, .int .u64 (t : Int), .string s]] w (StP V r M n L.length) := by
  have ht2 : t ≤ 4611686018427387904 := (mayE_ok hm).2.2
  have hk0 : 0 ≤ k := (mayE_ok hm).2.1
  have hnw := h.nw
  obtain ⟨tt, htt⟩ : ∃ tt, tt = max now t := ⟨_, rfl⟩
  have hnt : now ≤ tt := by omega
  have htb : tt ≤ 4611686018427387904 := by omega
  have HM : Hid (max (now : Int) (t : Int) = (tt : Int)) := by unfold Hid; omega
  have HA := Lib.hid (fun (w' : World) (h' : Ps V w' r g b n now m M q cap L) => by
    have := wait_ok g b n r now m hr t s k (by omega) (by omega) w' h'.qb hm hv (Nat.le_trans (h.i.w _) (Nat.div_le_div_right (by omega)))
    rw [← htt] at this
    exact this)
  have HB := Lib.hid (fun w' : World => bad_any t s k (by omega) w')
  rw [hm] at HB
  have hC := hr.C
  have hB := hr.B
  have hP := hr.P
  have hPn : r.P ≠ 0 := by omega
  have hP0' : ((r.P : Int) == 0) = false := by rw [beq_eq_false_iff_ne]; omega
  have H0 : ¬ ((r.C : Int) < 1) ∧ ¬ ((r.B : Int) < k) := by
    unfold neverB at hv
    rw [Bool.or_eq_false_iff, decide_eq_false_iff_not, decide_eq_false_iff_not] at hv
    exact ⟨by omega, by omega⟩
  have hC1 : decide ((r.C : Int) < 1) = false := decide_eq_false H0.1
  have hB1 : decide ((r.B : Int) < k) = false := decide_eq_false H0.2
  have HLA := Lib.hid (fun (w' : World) (h' : Ps V w' r g b n now m M q cap L) (x : Nat) (hx : now ≤ x) (hx9 : x ≤ 9223372036854775808) => h'.allowsAt hr hl s x k hx hx9 hk0 h9)
  have hmono : ∀ x y : Nat, tt ≤ x → x ≤ y → allowsA r (mget accZ m s.data.toList) y k = false → allowsA r (mget accZ m s.data.toList) x k = false := fun x y h1 h2 h3 => by
    cases e : allowsA r (mget accZ m s.data.toList) x k
    · rfl
    · have := allows_mono hP (Nat.le_trans (h.i.w s.data.toList) (Nat.div_le_div_right (Nat.le_trans hnt h1))) h2 e
      rw [this] at h3
      cases h3
  have HMO := Lib.hid hmono
  generalize mget accZ m s.data.toList = a at HA HLA HMO
  clear hm htt hv H0 hmono
  go_enter Try.func17, Try.ntmps17
  go_wp2_with fail
  have h1 := h.quiet ((Below.refl w.heap.size w).alloc (Nat.le_refl _) (.cells #[.int .i64 2, .int .i64 k, .int .u64 (t : Int), .string s] 54))
  have ha := Blk.new w 54 #[.int .i64 2, .int .i64 k, .int .u64 (t : Int), .string s]
  generalize hx : w.heap.size = x at *
  generalize w.alloc (.cells #[.int .i64 2, .int .i64 k, .int .u64 (t : Int), .string s] 54) = W at *
  clear h hx
  obtain ⟨c0, c1, c2, c3, c4⟩ := h1.md.cells
  have a0 := ha.cell 0
  have a1 := ha.cell 1
  have a2 := ha.cell 2
  have a3 := ha.cell 3
  have HX := Lib.hid ha
  have HQ := Lib.hid (fun k : Nat => h1.quiet (below_drewN (Below.refl W.heap.size W) k))
  clear h1 ha
  go_quiet (fail)
  rw [HM.out]
  go_wp2_with fail
  refine (HA.out _ (HQ.out nq)).mono ?_
  rintro e w1 ⟨x1, rfl, hw1, b1⟩
  have HW := Lib.hid hw1
  have h2 := (HQ.out nq).quiet b1
  have hx2 := (Blk.drewN HX.out nq).below b1 (Blk.drewN HX.out nq).lt
  clear HA HQ HX c0 c1 c2 c3 c4 a0 a1 a2 a3 b1 hw1
  have H2 := Lib.hid h2
  have HX2 := Lib.hid hx2
  obtain ⟨c0, c1, c2, c3, c4⟩ := h2.md.cells
  have a0 := hx2.cell 0
  have a1 := hx2.cell 1
  have a2 := hx2.cell 2
  have a3 := hx2.cell 3
  clear h2 hx2
  by_cases hbig : x1 ≤ 4611686018427387904
  · have hvx : waitV x1 = x1 := by unfold waitV; rw [if_neg (by omega)]
    rw [hvx]
    have hne : ((x1 : Int) == 18446744073709551615) = false := by rw [beq_eq_false_iff_ne]; omega
    have hlo := HW.out.lo
    have hy := Lib.hid HW.out.yes
    have hno := HW.out.no
    clear HW hvx HMO
    rcases hno with e | ⟨hlt, e⟩
    · subst e
      go_wp2_with (first
        | (go_at_call 32; refine (HB.out _).mono ?_; rintro e w1 ⟨rfl, rfl⟩)
        | (go_at_call 33; refine (HLA.out _ H2.out _ (by omega) (by omega)).mono ?_; rintro e w2 ⟨rfl, b2⟩; rw [hy.out]))
      go_ret2
      exact ⟨g, b, n, now, m, q, cap, L, rfl, H2.out.quiet b2, by omega, by omega⟩
    · have he : ((x1 : Int) == (tt : Int)) = false := by rw [beq_eq_false_iff_ne]; omega
      obtain ⟨x2, hx2e⟩ : ∃ x2, x2 = x1 - 1 := ⟨_, rfl⟩
      rw [← hx2e] at e
      have hs1 : (x1 : Int) - 1 = (x2 : Int) := by omega
      have HE := Lib.hid (show allowsA r a x2 k = false from e)
      have H5 := Lib.hid (HLA.out _ H2.out x1 (by omega) (by omega))
      rw [hy.out] at H5
      have HLA2 := Lib.hid (fun (w' : World) (h' : Ps V w' r g b n now m M q cap L) => HLA.out w' h' x2 (by omega) (by omega))
      rw [HE.out] at HLA2
      clear e hy HLA hx2e
      go_wp2_with (go_at_call 32; refine (HB.out _).mono ?_; rintro e w1 ⟨rfl, rfl⟩)
      refine (H5.out).mono ?_
      rintro e w2 ⟨rfl, b2⟩
      have h3 := H2.out.quiet b2
      have hx3 := HX2.out.below b2 HX2.out.lt
      have b0 := hx3.cell 1
      have b3 := hx3.cell 3
      have H6 := Lib.hid (HLA2.out _ h3)
      have H3 := Lib.hid h3
      clear H2 HX2 h3 hx3 HLA2 H5 b2 c0 c1 c2 c3 c4 a0 a1 a2 a3
      go_wp2_with (go_at_call 33; refine (H6.out).mono ?_; rintro e w3 ⟨rfl, b4⟩)
      go_ret2
      exact ⟨g, b, n, now, m, q, cap, L, rfl, H3.out.quiet b4, by omega, by omega⟩
  · have hvx : ((waitV x1 : Nat) : Int) = 18446744073709551615 := by unfold waitV; rw [if_pos (by omega)]; rfl
    rw [hvx]
    have hlate := late_of HW.out.hi (by omega)
    have hal : allowsA r a 4611686018427387904 k = false := by
      rcases HW.out.no with e | ⟨h1, h2⟩
      · omega
      · exact HMO.out _ _ (by omega) (by omega) h2
    obtain ⟨Q, hQ⟩ : ∃ Q, Q = tt / r.P := ⟨_, rfl⟩
    have hq : Q ≤ tt := by rw [hQ]; exact Nat.div_le_self _ _
    have hdiv : (tt : Int) / (r.P : Int) = (Q : Int) := by rw [hQ]; simp
    have hwq : IntKind.u64.wrap (Q : Int) = (Q : Int) := IntWalk.u64_in _ (by omega)
    have hwq2 : IntKind.u64.wrap ((Q : Int) + 2) = (Q : Int) + 2 := IntWalk.u64_in _ (by omega)
    obtain ⟨Z, hZ⟩ : ∃ Z, Z = 4611686018427387904 / r.P := ⟨_, rfl⟩
    have hz : Z ≤ 4611686018427387904 := by rw [hZ]; exact Nat.div_le_self _ _
    have hdivz : (4611686018427387904 : Int) / (r.P : Int) = (Z : Int) := by rw [hZ]; simp
    have hwz : IntKind.u64.wrap (Z : Int) = (Z : Int) := IntWalk.u64_in _ (by omega)
    rw [← hQ, ← hZ] at hlate
    have hl1 : decide ((Z : Int) < (Q : Int) + 2) = true := decide_eq_true (by omega)
    have H7 := Lib.hid (fun (w' : World) (h' : Ps V w' r g b n now m M q cap L) => HLA.out w' h' 4611686018427387904 (by omega) (by omega))
    rw [hal] at H7
    have HH := Lib.hid hbig
    clear HMO HLA hal hQ hZ hvx hlate HW hbig
    go_wp2_with (go_at_call 32; refine (HB.out _).mono ?_; rintro e w1 ⟨rfl, rfl⟩)
    go_quiet (fail)
    go_wp2_with fail
    clear hdiv hwq hwq2 hdivz hwz
    have HD := Lib.hid (fun j : Nat => H2.out.quiet (below_drewN (Below.refl _ _) j))
    go_region_held3 (fun w' => w'.cell? ⟨M, 0, none⟩ = some (.int .u64 (r.P : Int)) ∧ w'.cell? ⟨M, 1, none⟩ = some (.int .i64 (r.C : Int)) ∧ w'.cell? ⟨M, 2, none⟩ = some (.int .i64 (r.B : Int)) ∧ w'.cell? ⟨x, 1, none⟩ = some (.int .i64 k) ∧ w'.cell? ⟨x, 3, none⟩ = some (.string s)) (go_keep) ((go_at_call 33; refine (H7.out _ (HD.out _)).mono ?_; rintro e w2 ⟨rfl, b2⟩; obtain ⟨k0, k1, k2, k3, k4⟩ := ((HD.out _).quiet b2).md.cells; have hx9 := (Blk.drewN HX2.out _).below b2 (Blk.drewN HX2.out _).lt; have y1 := hx9.cell 1; have y3 := hx9.cell 3; clear hx9))
    all_goals
      go_wp2_with fail
      go_ret2
      exact ⟨g, b, n, now, m, q, cap, L, rfl, (HD.out _).quiet b2, by omega, by omega⟩
end
end Go.Proofs.Ytnofpbhpnhbbpaa
