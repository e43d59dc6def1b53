/- A call of the law: Ask. -/
import Derived.Test.YtnofpbhpnhbbpaaQuoPP
import Derived.Test.YtnofpbhpnhbbpaaConv
import Derived.Test.YtnofpbhpnhbbpaaRow
import Derived.Deep.DeepCutAuto
import Derived.BigRegion
namespace Go.Proofs.Ytnofpbhpnhbbpaa
set_option linter.unusedVariables false
open Go.RowKit Go.Maps Go.Sort

/-- After a call of the law. -/
def StP (V : World) (r : Rl) (M n l : Nat) (e : Ending) (w' : World) : Prop :=
  ∃ g b n' now m q cap L, e = .returned (.tuple #[.pointer (some ⟨g, 0, none⟩), .bool true]) ∧ Ps V w' r g b n' now m M q cap L ∧ n' ≤ n + 2 ∧ L.length ≤ l + 1
theorem owns_set {w : World} {B : Nat} {e : TypeId} {s : Nat} {v : Value} {n : Nat} {xs : List Value} {k : Nat} (h : w.ownsRow B e s v n xs) (hne : v.ownBlock ≠ some k) (o : Nat) (u : Value) : (w.setCell ⟨k, o, none⟩ u).ownsRow B e s v n xs :=
  ownsRow_only (S := fun g => g = k) h ((Only.refl (fun g => g = k) w).setCell1 (g := k) (.inl rfl) o u) (fun g hg e => hne (by rw [hg, e]))
theorem mayE_ok {t : Nat} {s : List UInt8} {k : Int} (h : mayE t s k = 0) : s.length ≠ 0 ∧ 0 ≤ k ∧ t ≤ 4611686018427387904 := by
  unfold mayE at h
  split at h
  · cases h
  · rename_i h1
    split at h
    · cases h
    · refine ⟨fun e => h1 (.inl e), ?_, by omega⟩
      apply Classical.byContradiction
      intro e
      exact h1 (.inr (.inr (by omega)))
theorem lies_three {w : World} {g c : Nat} {e : TypeId} {x y z : Value} (h : Blk w g e #[x, y, z]) : Lies w 3 (.slice (some ⟨g, 0, none⟩) 1 c) 1 [x, y, z] := by
  refine ⟨_, c, rfl, rfl, .inr ⟨_, rfl, fun j u hj => ?_⟩⟩
  rw [addr_add, Nat.zero_add]
  rw [h.cell j]
  simpa using hj
section
variable {V w : World} {r : Rl} {g b n now M : Nat} {m : List (List UInt8 × Acc)} {q : Option Addr} {cap : Nat} {L : List Alw}
set_option maxHeartbeats 2000000 in
set_option maxRecDepth 100000 in
theorem st_ask_bad (h : Ps V w r g b n now m M q cap L) (hr : RlOk r) (hl : L.length ≤ 90) (hn : n ≤ 100) (k : Int) (t : Nat) (s : ByteArray) (hs : s.size ≤ 60) (hm : mayE t s.data.toList k ≠ 0) :
    Calls Try.prog 17 #[.pointer (some ⟨g, 0, none⟩), .pointer (some ⟨M, 0, none⟩), .agg #[.int .i64 0, .int .i64 k, .int .u64 (t : Int), .string s]] w (StP V r M n L.length) := by
  have HA := Lib.hid (fun (w' : World) (h' : Ps V w' r g b n now m M q cap L) => ask_bad g b n r now m t s k (by omega) w' h'.qb hm)
  have HB := Lib.hid (fun w' : World => bad_any t s k (by omega) w')
  have hE : (mayE t s.data.toList k == 0) = false := by simpa using hm
  have hE2 : (mayE t s.data.toList k != 0) = true := by simpa using hm
  clear hm
  generalize mayE t s.data.toList k = E at HA HB hE hE2
  go_enter Try.func17, Try.ntmps17
  go_wp2_with fail
  have h1 := h.quiet ((Below.refl w.heap.size w).alloc (Nat.le_refl _) (.cells #[.int .i64 0, .int .i64 k, .int .u64 (t : Int), .string s] 54))
  have ha := Blk.new w 54 #[.int .i64 0, .int .i64 k, .int .u64 (t : Int), .string s]
  generalize hx : w.heap.size = x at *
  generalize w.alloc (.cells #[.int .i64 0, .int .i64 k, .int .u64 (t : Int), .string s] 54) = W at *
  clear h hx
  obtain ⟨c0, c1, c2, c3, c4⟩ := h1.md.cells
  have a0 := ha.cell 0
  have a1 := ha.cell 1
  have a2 := ha.cell 2
  have a3 := ha.cell 3
  have HP := Lib.hid h1
  have HQ := Lib.hid (fun k : Nat => h1.quiet (below_drewN (Below.refl W.heap.size W) k))
  clear h1 ha
  go_quiet (fail)
  go_wp2_with (first
    | (go_at_call 9; refine (HA.out _ (HQ.out nq)).mono ?_; rintro e w1 ⟨rfl, rfl⟩)
    | (go_at_call 32; refine (HB.out _).mono ?_; rintro e w1 ⟨rfl, rfl⟩))
  go_ret2
  exact ⟨g, b, n, now, m, q, cap, L, rfl, HQ.out nq, by omega, by omega⟩
theorem Md.setNow {B0 : Nat} (h : Md w B0 M r now q cap L) (tt : Nat) : Md (w.setCell ⟨M, 3, none⟩ (.int .u64 (tt : Int))) B0 M r tt q cap L :=
  ⟨by simpa using Blk.set_ h.bk 3 (.int .u64 (tt : Int)), owns_set h.row h.ne 3 _, by simpa using h.base, h.ne⟩
@[irreducible] def appS (t : Array TypeId) (ty : TypeId) (v : Array Value) : Sem Value := Builtin.append_ t ty v
theorem appS_eq (t : Array TypeId) (ty : TypeId) (v : Array Value) : Builtin.append_ t ty v = appS t ty v := by unfold appS; rfl
attribute [local go_sem ↓] appS_eq
theorem alInfo : (Try.prog.info? 83).map (fun i => (i.zero, i.size, i.bytes)) = some (some (.agg #[.string ⟨#[]⟩, .int .u64 0, .int .i64 0]), 3, 32) := by kernel_rfl
set_option maxHeartbeats 2000000 in
set_option maxRecDepth 100000 in
theorem st_ask_ok (h : Ps V w r g b n now m M q cap L) (hr : RlOk r) (hl : L.length ≤ 90) (hn : n ≤ 100) (k : Nat) (hk9 : k ≤ 9223372036854775807) (t : Nat) (s : ByteArray) (hs : s.size ≤ 60) (hm : mayE t s.data.toList k = 0) :
    Calls Try.prog 17 #[.pointer (some ⟨g, 0, none⟩), .pointer (some ⟨M, 0, none⟩), .agg #[.int .i64 0, .int .i64 k, .int .u64 (t : Int), .string s]] w (StP V r M n L.length) := by
  have ht2 : t ≤ 4611686018427387904 := (mayE_ok hm).2.2
  have hnw := h.nw
  obtain ⟨tt, htt⟩ : ∃ tt, tt = max now t := ⟨_, rfl⟩
  have hnt : now ≤ tt := by omega
  have htb : tt ≤ 4611686018427387904 := by omega
  have HM : Hid (max (now : Int) (t : Int) = (tt : Int)) := by unfold Hid; omega
  obtain ⟨m2, hm2, hi2⟩ := h.i.askM h.qb.apart hnt s.data.toList k (Nat.lt_of_le_of_lt h.qb.mp.size (by omega))
  have hA0 := h.i.accOk hnt (by omega) s.data.toList (h.accOk s.data.toList)
  have hAL := h.i.allows hnt s.data.toList (k : Int)
  have hkb : allowsA r (mget accZ m s.data.toList) tt (k : Int) = true → k ≤ 1073741824 := fun e => allowed_small hr e
  generalize hal : allowsA r (mget accZ m s.data.toList) tt (k : Int) = al at hm2 hi2 hAL hkb
  have HA : Hid (∀ w' : World, Ps V w' r g b n now m M q cap L → Calls Try.prog 9 #[.pointer (some ⟨g, 0, none⟩), .int .u64 (t : Int), .string s, .int .i64 (k : Int)] w' fun e w'' => e = .returned (.tuple #[.bool al, .int .i64 0]) ∧ Qb w'' g b (n + 1) r tt m2 ∧ Only (fun i => i = g ∨ i = b) w' w'') := fun w' h' => by
    have := ask_ok g b n r now m hr t s k (by omega) (by omega) w' h'.qb hm (by omega)
    rw [← htt, hm2] at this
    exact this
  clear hal hm2 htt
  have HB := Lib.hid (fun w' : World => bad_any t s k (by omega) w')
  rw [hm] at HB
  clear hm
  have HI2 := Lib.hid hi2
  clear hi2
  go_enter Try.func17, Try.ntmps17
  go_wp2_with fail
  have h1 := h.quiet ((Below.refl w.heap.size w).alloc (Nat.le_refl _) (.cells #[.int .i64 0, .int .i64 k, .int .u64 (t : Int), .string s] 54))
  have ha := Blk.new w 54 #[.int .i64 0, .int .i64 k, .int .u64 (t : Int), .string s]
  have hgx : w.heap.size ≠ g := by have := h.qb.bk.lt; omega
  have hbx : w.heap.size ≠ b := by have := h.qb.mp.lt; omega
  have hMx : w.heap.size ≠ M := by have := h.md.bk.lt; omega
  have HNX : Hid ((Value.slice q L.length cap).ownBlock ≠ some w.heap.size) := Lib.hid (fun e => by have := (h.md.row.lt _ e).2; omega)
  generalize hx : w.heap.size = x at *
  generalize w.alloc (.cells #[.int .i64 0, .int .i64 k, .int .u64 (t : Int), .string s] 54) = W at *
  clear h hx
  obtain ⟨c0, c1, c2, c3, c4⟩ := h1.md.cells
  have a0 := ha.cell 0
  have a1 := ha.cell 1
  have a2 := ha.cell 2
  have a3 := ha.cell 3
  have HX := Lib.hid ha
  have HQ := Lib.hid (fun k : Nat => h1.quiet (below_drewN (Below.refl W.heap.size W) k))
  clear h1 ha
  go_quiet (fail)
  rw [HM.out]
  go_wp2_with fail
  refine (HA.out _ (HQ.out nq)).mono ?_
  rintro e w1 ⟨rfl, h2, ho2⟩
  obtain ⟨hmd, hbel⟩ := (HQ.out nq).book ho2
  have HX1 := Lib.hid ((Blk.drewN HX.out nq).only ho2 (fun e => by rcases e with e | e <;> contradiction))
  have HS := (HQ.out nq)
  clear HA HQ HX c0 c1 c2 c3 c4 a0 a1 a2 a3 ho2
  obtain ⟨c0, c1, c2, c3, c4⟩ := hmd.cells
  have a0 := HX1.out.cell 0
  have a1 := HX1.out.cell 1
  have a2 := HX1.out.cell 2
  have a3 := HX1.out.cell 3
  have HD := Lib.hid hmd
  have fM := hmd.bk.frozen 3
  have HMl := Lib.hid hmd.bk.lt
  clear hmd
  go_wp2_with (go_at_call 32; refine (HB.out _).mono ?_; rintro e w1 ⟨rfl, rfl⟩)
  have hfM : (w1.setCell ⟨M, 3, none⟩ (.int .u64 (tt : Int))).heap.size = w1.heap.size := by simp
  have h3 := h2.far HS.d1 HS.d2 3 (.int .u64 (tt : Int))
  have hd3 := HD.out.setNow tt
  have hx3 := Blk.far (p := ⟨M, 3, none⟩) HX1.out hMx (.int .u64 (tt : Int))
  have hb3 : Below V.heap.size V (w1.setCell ⟨M, 3, none⟩ (.int .u64 (tt : Int))) := hbel.setCell HS.v3 _
  obtain ⟨W2, hW2⟩ : ∃ W2, w1.setCell ⟨M, 3, none⟩ (.int .u64 (tt : Int)) = W2 := ⟨_, rfl⟩
  rw [hW2] at h3 hd3 hx3 hb3 ⊢
  clear hW2 HD HX1 hbel h2 c0 c1 c2 c3 c4 a0 a1 a2 a3 hfM fM HMl
  refine (mallows_any hd3 hr (by omega) HS.kb s tt (k : Int) (by omega) hA0 (by omega) (by omega)).mono ?_
  rintro e w2 ⟨rfl, b2⟩
  rw [hAL]
  have H4 := Lib.hid (h3.below b2)
  have hd4 := hd3.below b2
  have hx4 := hx3.below b2 hx3.lt
  have HB4 := Lib.hid (hb3.trans (b2.mono hb3.size))
  clear h3 hd3 hx3 hb3 b2
  have HSS := Lib.hid HS
  cases al
  · have HI3 : Hid (BkInv r tt m2 L) := Lib.hid (by simpa using HI2.out)
    have HD4 := Lib.hid hd4
    clear HI2 hd4 hx4
    go_wp2_with fail
    go_ret2
    exact ⟨g, b, n + 1, tt, m2, q, cap, L, rfl, ⟨H4.out, HD4.out, HI3.out, HSS.out.kb, HSS.out.d1, HSS.out.d2, HSS.out.d3, HSS.out.d4, HSS.out.v1, HSS.out.v2, HSS.out.v3, htb, HB4.out⟩, by omega, by omega⟩
  · have hk3 := hkb rfl
    have HI3 : Hid (BkInv r tt m2 (L ++ [⟨s.data.toList, tt / r.P, k⟩])) := Lib.hid (by simpa using HI2.out)
    obtain ⟨c0, c1, c2, c3, c4⟩ := hd4.cells
    have a0 := hx4.cell 0
    have a1 := hx4.cell 1
    have a2 := hx4.cell 2
    have a3 := hx4.cell 3
    have HD4 := Lib.hid hd4
    have HX4 := Lib.hid hx4
    have fM := hd4.bk.frozen 2
    have fM2 := hd4.bk.frozen 4
    have hP := hr.P
    have hPn : r.P ≠ 0 := by omega
    obtain ⟨Q, hQ⟩ : ∃ Q, Q = tt / r.P := ⟨_, rfl⟩
    have hq : Q ≤ tt := by rw [hQ]; exact Nat.div_le_self _ _
    have hdiv : (tt : Int) / (r.P : Int) = (Q : Int) := by rw [hQ]; simp
    have hwq : IntKind.u64.wrap (Q : Int) = (Q : Int) := IntWalk.u64_in _ (by omega)
    rw [← hQ] at HI3
    clear HI2 hd4 hx4 hkb hQ
    go_wp2_with fail
    have HD5 := Lib.hid (HD4.out.below (Below.refl w2.heap.size w2).drew)
    have H5 := Lib.hid (H4.out.below (Below.refl w2.heap.size w2).drew)
    have HB5 := Lib.hid (HB4.out.drew)
    have HX5 : Hid (Blk w2.drew x 54 #[.int .i64 0, .int .i64 k, .int .u64 (t : Int), .string s]) := HX4.out.drewN 1
    clear HD4 H4 HB4 HX4
    obtain ⟨i0, hi, hp0⟩ := Option.map_eq_some_iff.1 alInfo
    have hz0 : i0.zero = some (.agg #[.string ⟨#[]⟩, .int .u64 0, .int .i64 0]) := congrArg (·.1) hp0
    have hz1 : i0.size = 3 := congrArg (·.2.1) hp0
    have hz2 : i0.bytes = 32 := congrArg (·.2.2) hp0
    clear hp0
    have HLB := Lib.hid (lies_three (Blk.new w2.drew 83 #[.string s, .int .u64 (Q : Int), .int .i64 (k : Int)]) (c := 1))
    have hbase : V.heap.size ≤ w2.heap.size := HD5.out.base
    have c4d : w2.drew.cell? ⟨M, 4, none⟩ = some (.slice q L.length cap) := c4
    have hRow := Lib.hid (HD5.out.row.alloc (.cells #[.string s, .int .u64 (Q : Int), .int .i64 (k : Int)] 83))
    have HC : Hid (∀ w5 : World, (w2.drew.alloc (.cells #[.string s, .int .u64 (Q : Int), .int .i64 (k : Int)] 83)).grownBy w5 (Value.slice q L.length cap).ownBlock → Blk w5 M 52 #[.int .u64 (r.P : Int), .int .i64 (r.C : Int), .int .i64 (r.B : Int), .int .u64 (tt : Int), .slice q L.length cap] ∧ Blk w5 x 54 #[.int .i64 0, .int .i64 k, .int .u64 (t : Int), .string s]) := fun w5 g5 => ⟨Blk.grown (Blk.alloc HD5.out.bk _) g5 (fun e => HD5.out.ne e.symm), Blk.grown (Blk.alloc HX5.out _) g5 (fun e => HNX.out e.symm)⟩
    have c4e : (w2.alloc (.cells #[.string s, .int .u64 (Q : Int), .int .i64 (k : Int)] 83)).drew.cell? ⟨M, 4, none⟩ = some (.slice q L.length cap) := (HD5.out.bk.alloc (.cells #[.string s, .int .u64 (Q : Int), .int .i64 (k : Int)] 83)).cell 4
    obtain ⟨v5, w5, hrun, o5, g5, hv5⟩ := run_append_lying (P := Try.prog) (w2.drew.alloc (.cells #[.string s, .int .u64 (Q : Int), .int .i64 (k : Int)] 83)) V.heap.size 50 50 83 i0 (.agg #[.string ⟨#[]⟩, .int .u64 0, .int .i64 0]) 3 32 Try.underlying50 hi hz0 hz1 hz2 rfl (by decide) (.slice q L.length cap) L.length (alCells L) hRow.out (Value.slice (some ⟨w2.drew.heap.size, 0, none⟩) 1 1) 1 [.string s, .int .u64 (Q : Int), .int .i64 (k : Int)] HLB.out (by intro u hu; simp at hu; rcases hu with rfl | rfl | rfl <;> rfl) (by unfold maxLen; omega) (by omega) (by simp; omega)
    obtain ⟨p5, c5, rfl⟩ := owns_form o5
    rw [appS_eq] at hrun
    have hrun2 : (appS #[50, 50] 50 #[.slice q L.length cap, .slice (some ⟨w2.heap.size, 0, none⟩) 1 1]).run Try.prog (w2.alloc (.cells #[.string s, .int .u64 (Q : Int), .int .i64 (k : Int)] 83)).drew = .ok (.slice p5 (L.length + 1) c5) w5 := hrun
    have e4 := (HC.out w5 g5).1.cell 4
    have f4 := (HC.out w5 g5).1.frozen 4
    clear hrun
    go_region
    have hMl := HD5.out.bk.lt
    have hgl := H5.out.bk.lt
    have hbl := H5.out.mp.lt
    have o6 : w5.ownsRow V.heap.size 83 3 (.slice p5 (L ++ [(⟨s.data.toList, Q, k⟩ : Alw)]).length c5) (L ++ [(⟨s.data.toList, Q, k⟩ : Alw)]).length (alCells (L ++ [⟨s.data.toList, Q, k⟩])) := by
      rw [alCells_app, List.length_append]
      exact o5
    have hM6 := Lib.hid (HC.out w5 g5).1
    have H6 := Lib.hid (show Qb w5 g b (n + 1) r tt m2 from ⟨Blk.grown (Blk.alloc H5.out.bk _) g5 (fun e => HSS.out.d3 e.symm), (H5.out.below ((Below.refl w2.drew.heap.size w2.drew).alloc (Nat.le_refl _) (.cells #[.string s, .int .u64 (Q : Int), .int .i64 (k : Int)] 83))).mp.kept g5 (fun e => HSS.out.d4 e.symm)⟩)
    have HB6 : Hid (Below V.heap.size V w5) := (HB5.out.alloc HB5.out.size _).grown g5 (by have := HB5.out.size; simp; omega) (fun j hj => (HD5.out.row.lt j hj).1)
    have hne6 : ∀ z, z < w2.drew.heap.size → (Value.slice q L.length cap).ownBlock ≠ some z → (Value.slice p5 (L.length + 1) c5).ownBlock ≠ some z := fun z hz hn e => by
      rcases hv5 with hv | hv
      · exact hn (hv.symm.trans e)
      · have := Option.some.inj (hv.symm.trans e)
        simp at this
        have hz2 : z < w2.heap.size := hz
        omega
    have N1 := Lib.hid (show (Value.slice p5 (L ++ [(⟨s.data.toList, Q, k⟩ : Alw)]).length c5).ownBlock ≠ some M by rw [List.length_append]; exact hne6 M hMl HD5.out.ne)
    have N2 := Lib.hid (show (Value.slice p5 (L ++ [(⟨s.data.toList, Q, k⟩ : Alw)]).length c5).ownBlock ≠ some g by rw [List.length_append]; exact hne6 g hgl HSS.out.d3)
    have N3 := Lib.hid (show (Value.slice p5 (L ++ [(⟨s.data.toList, Q, k⟩ : Alw)]).length c5).ownBlock ≠ some b by rw [List.length_append]; exact hne6 b hbl HSS.out.d4)
    have O6 := Lib.hid o6
    have hbase5 : V.heap.size ≤ w5.heap.size := Nat.le_trans hbase (Nat.le_trans (by simp) g5.size)
    clear hMl hgl hbl o5 g5 hv5 o6 hne6 HLB HC H5 HD5 HB5 HX5 hRow c0 c1 c2 c3 c4 a0 a1 a2 a3
    go_wp2_with fail
    go_ret2
    refine ⟨g, b, n + 1, tt, m2, p5, c5, L ++ [⟨s.data.toList, Q, k⟩], rfl, ⟨H6.out.far HSS.out.d1 HSS.out.d2 4 _, ⟨by simpa using Blk.set_ hM6.out 4 (.slice p5 (L ++ [(⟨s.data.toList, Q, k⟩ : Alw)]).length c5), owns_set O6.out N1.out 4 _, by simpa using hbase5, N1.out⟩, HI3.out, ?_, HSS.out.d1, HSS.out.d2, N2.out, N3.out, HSS.out.v1, HSS.out.v2, HSS.out.v3, htb, HB6.out.setCell HSS.out.v3 _⟩, by omega, by simp⟩
    intro y hy
    rcases List.mem_append.1 hy with hy | hy
    · exact HSS.out.kb y hy
    · rw [List.mem_singleton.1 hy]; exact hk3
end
end Go.Proofs.Ytnofpbhpnhbbpaa
