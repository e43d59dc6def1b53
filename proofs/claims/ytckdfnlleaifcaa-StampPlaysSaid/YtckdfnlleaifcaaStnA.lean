/- The document's next, Other, Hard, Forget. -/
import Derived.Test.YtckdfnlleaifcaaStmZ
import Derived.Test.YtckdfnlleaifcaaStmO
namespace Go.Proofs.Ytckdfnlleaifcaa
set_option linter.unusedVariables false
open Go.RowKit Go.Maps Go.Sort

/-- The document's list, ready for its calls. -/
structure Dok (w : World) (now last : Nat) (q : Option Addr) (n5 c : Nat) (E : List Ev) (d : List Tg) : Prop where
  li : ListAt w (.slice q n5 c) E
  lt : LtV w (.slice q n5 c) E
  ln : n5 = E.length
  un : unE E = d
  ok : LOk now last d
  ne : LNe d
  sm : n5 < 99000
  ss : ∀ x ∈ d, x.p.soft.length < 99000
  nb : now ≤ 18446744073709551615
/-- The result of a call with an error's number. -/
def NxP (w : World) (gr now last n6 : Nat) (v : Value) (E : List Ev) (d2 : List Tg) (no : Int) (e : Ending) (w' : World) : Prop :=
  ∃ q2 c2 E2, e = .returned (.tuple #[mV gr now last (.slice q2 n6 c2), .int .i64 no]) ∧ n6 = E2.length ∧ unE E2 = d2 ∧ DocV w w' v E (.slice q2 n6 c2) E2
section
variable {w w' : World} {now last n5 c n6 : Nat} {q : Option Addr} {E : List Ev} {d : List Tg}
theorem Dok.below (h : Dok w now last q n5 c E d) (hb : Below w.heap.size w w') : Dok w' now last q n5 c E d :=
  ⟨h.li.below hb, h.lt.size hb.size, h.ln, h.un, h.ok, h.ne, h.sm, h.ss, h.nb⟩
theorem Dok.adv (h : Dok w now last q n5 c E d) (gr a : Nat) (ha : a ≤ 18446744073709551615) :
    Calls Try.prog 50 #[mV gr now last (.slice q n5 c), .int .u64 (a : Int)] w (KnwP w gr (max now a) last n5 (.slice q n5 c) E (advD gr (max now a) d)) := by
  obtain ⟨h1, h2, h3, h4, h5, h6, h7, h8, h9⟩ := h
  subst h3 h4
  refine (radv_any h1 h2 h5 h6 (by omega) gr h9 a ha).mono ?_
  rintro e w' ⟨q2, c2, E2, k1, k2, k3⟩
  have hl2 : E.length = E2.length := by
    have := congrArg List.length k2
    unfold unE advD at this
    simpa using this.symm
  rw [← hl2] at k1 k3
  exact ⟨q2, c2, E2, k1, hl2, k2, k3⟩
theorem Av.setLast {w wr : World} {gr now last n5 c : Nat} {v0 : Value} {E E1 : List Ev} {q : Option Addr} {d1 : List Tg} (h : Av w wr gr now last v0 E n5 q c E1 d1) (hlt : LtV w v0 E) (last2 : Nat) : Av w (wr.setCell ⟨w.heap.size, 2, none⟩ (.int .u64 (last2 : Int))) gr now last2 v0 E n5 q c E1 d1 := by
  have hO := (Only.refl (fun x => x = w.heap.size) wr).setCell1 (g := w.heap.size) (.inl rfl) 2 (.int .u64 (last2 : Int))
  have hsz := hO.size
  have hb := h.br.lt
  refine ⟨by simpa using h.bs.set_ 2 (.int .u64 (last2 : Int)), h.br.only hO (by omega), h.bel.trans (hO.below (fun x hx => by omega) (by omega)), h.li.only hO (fun z hz e => ?_) (fun e he z hz e2 => ?_), fun z hz => (h.lo z hz).imp (fun j => ⟨j.1, Nat.lt_of_lt_of_le j.2 hsz⟩) id, fun e he z hz => (h.eo e he z hz).imp (fun j => ⟨j.1, Nat.lt_of_lt_of_le j.2 hsz⟩) id, h.ln, h.un⟩
  · rcases h.lo z hz with k | k
    · omega
    · have := hlt.1 z k; omega
  · rcases h.eo e he z hz with k | ⟨e0, k0, k⟩
    · omega
    · have := hlt.2 e0 k0 z k; omega
/-- The result is laid down, and returned. -/
theorem Av.ret {w wr : World} {gr now last n5 c : Nat} {v0 : Value} {E E1 : List Ev} {q : Option Addr} {d1 : List Tg} (h : Av w wr gr now last v0 E n5 q c E1 d1) (hlt : LtV w v0 E) {w3 : World} {gr2 now2 last2 n6 c2 : Nat} {q2 : Option Addr} {E2 : List Ev} (h3 : DocV wr w3 (.slice q n5 c) E1 (.slice q2 n6 c2) E2) :
    let w4 := (((w3.setCell ⟨w.heap.size + 1, 0, none⟩ (.int .u64 (gr2 : Int))).setCell ⟨w.heap.size + 1, 1, none⟩ (.int .u64 (now2 : Int))).setCell ⟨w.heap.size + 1, 2, none⟩ (.int .u64 (last2 : Int))).setCell ⟨w.heap.size + 1, 3, none⟩ (.slice q2 n6 c2)
    DocV w w4 v0 E (.slice q2 n6 c2) E2 ∧ w4.cell? ⟨w.heap.size + 1, 0, none⟩ = some (.int .u64 (gr2 : Int)) ∧ w4.cell? ⟨w.heap.size + 1, 1, none⟩ = some (.int .u64 (now2 : Int)) ∧ w4.cell? ⟨w.heap.size + 1, 2, none⟩ = some (.int .u64 (last2 : Int)) ∧ w4.cell? ⟨w.heap.size + 1, 3, none⟩ = some (.slice q2 n6 c2) := by
  intro w4
  have hO := ((((Only.refl (fun x => x = w.heap.size ∨ x = w.heap.size + 1) w3).setCell1 (g := w.heap.size + 1) (.inl (.inr rfl)) 0 (.int .u64 (gr2 : Int))).setCell1 (g := w.heap.size + 1) (.inl (.inr rfl)) 1 (.int .u64 (now2 : Int))).setCell1 (g := w.heap.size + 1) (.inl (.inr rfl)) 2 (.int .u64 (last2 : Int))).setCell1 (g := w.heap.size + 1) (.inl (.inr rfl)) 3 (.slice q2 n6 c2)
  have zz := ((((h.br.below h3.bel h.br.lt).set_ 0 (.int .u64 (gr2 : Int))).set_ 1 (.int .u64 (now2 : Int))).set_ 2 (.int .u64 (last2 : Int))).set_ 3 (.slice q2 n6 c2)
  have e0 := zz.cell 0
  have e1 := zz.cell 1
  have e2 := zz.cell 2
  have e3 := zz.cell 3
  simp only [List.setIfInBounds_toArray, List.set_cons_zero, List.set_cons_succ, List.getElem?_toArray, List.getElem?_cons_zero, List.getElem?_cons_succ] at e0 e1 e2 e3
  exact ⟨h.fin hlt h3 hO, e0, e1, e2, e3⟩
theorem Av.rcells {w wr : World} {gr now last n5 c : Nat} {v0 : Value} {E E1 : List Ev} {q : Option Addr} {d1 : List Tg} (h : Av w wr gr now last v0 E n5 q c E1 d1) : wr.cell? ⟨w.heap.size + 1, 0, none⟩ = some (.int .u64 0) ∧ wr.cell? ⟨w.heap.size + 1, 1, none⟩ = some (.int .u64 0) ∧ wr.cell? ⟨w.heap.size + 1, 2, none⟩ = some (.int .u64 0) ∧ wr.cell? ⟨w.heap.size + 1, 3, none⟩ = some (.slice none 0 0) :=
  ⟨Blk.cell h.br 0, Blk.cell h.br 1, Blk.cell h.br 2, Blk.cell h.br 3⟩
set_option maxHeartbeats 4000000 in
set_option maxRecDepth 100000 in
theorem Dok.next (h : Dok w now last q n5 c E d) (gr : Nat) (hl : last < 18446744073709551615) (a : Nat) (ha : a ≤ 18446744073709551615) :
    Calls Try.prog 57 #[mV gr now last (.slice q n5 c), .int .u64 (a : Int)] w (NxP w gr (max now a) (last + 1) n5 (.slice q n5 c) E (advD gr (max now a) d) 0) := by
  have hne : ((last : Int) == 18446744073709551615) = false := by simp; omega
  obtain ⟨L1, hL1⟩ : ∃ L1, L1 = last + 1 := ⟨_, rfl⟩
  have hw : IntKind.u64.wrap ((last : Int) + 1) = (L1 : Int) := by rw [hL1]; exact IntWalk.u64_in _ (by omega)
  have A0 := Lib.hid (Av.start (gr := gr) (now := now) (last := last) h.li h.ln h.un)
  have HT := Lib.hid h.lt
  have HA := Lib.hid ((h.below A0.out.bel).adv gr a ha)
  rw [← hL1]
  clear h hL1 hl
  obtain ⟨W, hW⟩ : ∃ W, W = (w.alloc (.cells #[.int .u64 (gr : Int), .int .u64 (now : Int), .int .u64 (last : Int), .slice q n5 c] 57)).alloc (.cells #[.int .u64 0, .int .u64 0, .int .u64 0, .slice none 0 0] 57) := ⟨_, rfl⟩
  rw [← hW] at A0 HA
  have HW := Lib.hid hW
  clear hW
  generalize max now a = A at *
  go_enter Try.func57, Try.ntmps57
  go_wp2_with fail
  rw [← HW.out]
  refine HA.out.mono ?_
  rintro e w1 ⟨q1, c1, E1, rfl, hn1, hu1, dv1⟩
  have A1 := Lib.hid (A0.out.below dv1.bel)
  have A2 := Lib.hid ((A0.out.turn HT.out hn1 hu1 dv1 : Av w _ gr A last _ _ _ _ _ _ _))
  obtain ⟨k0, k1, k2, k3⟩ := A1.out.cells
  have sf := A1.out.bs.frozen
  clear hn1 hu1 dv1 HA HW
  go_upto_region 4 with (fail)
  clear k0 k1 k2 k3 sf A1
  generalize (((w1.setCell ⟨w.heap.size, 0, none⟩ (.int .u64 (gr : Int))).setCell ⟨w.heap.size, 1, none⟩ (.int .u64 (A : Int))).setCell ⟨w.heap.size, 2, none⟩ (.int .u64 (last : Int))).setCell ⟨w.heap.size, 3, none⟩ (.slice q1 n5 c1) = W2 at *
  obtain ⟨k0, k1, k2, k3⟩ := A2.out.cells
  have sf := A2.out.bs.frozen
  have A3 := Lib.hid (A2.out.setLast HT.out L1)
  go_upto_region 5 with (fail)
  clear k0 k1 k2 k3 sf A2
  generalize W2.setCell ⟨w.heap.size, 2, none⟩ (.int .u64 (L1 : Int)) = W3 at *
  obtain ⟨k0, k1, k2, k3⟩ := A3.out.cells
  have rf := A3.out.br.frozen
  obtain ⟨r0, r1, r2, r3⟩ := A3.out.rcells
  go_wp2_with fail
  obtain ⟨hfin, e0, e1, e2, e3⟩ := A3.out.ret HT.out A3.out.self
  exact bodyPost_ret (v := .tuple #[mV gr A L1 (.slice q1 n5 c1), .int .i64 0]) (by simp [results, Try.results57, go_sem, e0, e1, e2, e3]) rfl ⟨q1, c1, E1, rfl, A3.out.ln, A3.out.un, hfin⟩
def BadP (w : World) (gr now last : Int) (v : Value) (no : Int) (e : Ending) (w' : World) : Prop := e = .returned (.tuple #[mV gr now last v, .int .i64 no]) ∧ Below w.heap.size w w'
theorem badRet (w : World) (x0 x1 x2 : Int) (v : Value) :
    let W := (w.alloc (.cells #[.int .u64 x0, .int .u64 x1, .int .u64 x2, v] 57)).alloc (.cells #[.int .u64 x0, .int .u64 x1, .int .u64 x2, v] 57)
    Below w.heap.size w W ∧ W.cell? ⟨w.heap.size + 1, 0, none⟩ = some (.int .u64 x0) ∧ W.cell? ⟨w.heap.size + 1, 1, none⟩ = some (.int .u64 x1) ∧ W.cell? ⟨w.heap.size + 1, 2, none⟩ = some (.int .u64 x2) ∧ W.cell? ⟨w.heap.size + 1, 3, none⟩ = some v := by
  intro W
  have hx : Blk W (w.heap.size + 1) 57 #[.int .u64 x0, .int .u64 x1, .int .u64 x2, v] := by simpa using Blk.new (w.alloc (.cells #[.int .u64 x0, .int .u64 x1, .int .u64 x2, v] 57)) 57 #[.int .u64 x0, .int .u64 x1, .int .u64 x2, v]
  exact ⟨((Below.refl w.heap.size w).alloc (Nat.le_refl _) _).alloc (by simp) _, Blk.cell hx 0, Blk.cell hx 1, Blk.cell hx 2, Blk.cell hx 3⟩
set_option maxHeartbeats 4000000 in
set_option maxRecDepth 100000 in
theorem nextFull (gr now a : Nat) (q : Option Addr) (n5 c : Nat) (w : World) :
    Calls Try.prog 57 #[mV gr now 18446744073709551615 (.slice q n5 c), .int .u64 (a : Int)] w (BadP w gr now 18446744073709551615 (.slice q n5 c) 7) := by
  go_enter Try.func57, Try.ntmps57
  go_wp2_with fail
  obtain ⟨hb, e0, e1, e2, e3⟩ := badRet w (gr : Int) (now : Int) 18446744073709551615 (.slice q n5 c)
  exact bodyPost_ret (v := .tuple #[mV gr now 18446744073709551615 (.slice q n5 c), .int .i64 7]) (by simp [results, Try.results57, go_sem, e0, e1, e2, e3]) rfl ⟨rfl, hb⟩
set_option maxHeartbeats 4000000 in
set_option maxRecDepth 100000 in
theorem Dok.other (h : Dok w now last q n5 c E d) (gr : Nat) (hl : last < 18446744073709551615) (a : Nat) (ha : a ≤ 18446744073709551615) :
    Calls Try.prog 47 #[mV gr now last (.slice q n5 c), .int .u64 (a : Int)] w (NxP w gr (max now a) (last + 1) n5 (.slice q n5 c) E (advD gr (max now a) d) 0) := by
  have A0 := Lib.hid (Av.start (gr := gr) (now := now) (last := last) h.li h.ln h.un)
  have HT := Lib.hid h.lt
  have HA := Lib.hid ((h.below A0.out.bel).next gr hl a ha)
  clear h hl
  obtain ⟨W, hW⟩ : ∃ W, W = (w.alloc (.cells #[.int .u64 (gr : Int), .int .u64 (now : Int), .int .u64 (last : Int), .slice q n5 c] 57)).alloc (.cells #[.int .u64 0, .int .u64 0, .int .u64 0, .slice none 0 0] 57) := ⟨_, rfl⟩
  rw [← hW] at A0 HA
  have HW := Lib.hid hW
  clear hW
  generalize last + 1 = L1 at *
  generalize max now a = A at *
  go_enter Try.func47, Try.ntmps47
  go_wp2_with fail
  rw [← HW.out]
  refine HA.out.mono ?_
  rintro e w1 ⟨q1, c1, E1, rfl, hn1, hu1, dv1⟩
  have A1 := Lib.hid (A0.out.below dv1.bel)
  obtain ⟨k0, k1, k2, k3⟩ := A1.out.cells
  have rf := A1.out.br.frozen
  obtain ⟨r0, r1, r2, r3⟩ := A1.out.rcells
  have D1 := Lib.hid dv1
  have HN1 := Lib.hid hn1
  have HU1 := Lib.hid hu1
  clear hn1 hu1 dv1 HA HW
  go_wp2_with fail
  obtain ⟨hfin, e0, e1, e2, e3⟩ := A0.out.ret HT.out (gr2 := gr) (now2 := A) (last2 := L1) D1.out
  exact bodyPost_ret (v := .tuple #[mV gr A L1 (.slice q1 n5 c1), .int .i64 0]) (by simp [results, Try.results47, go_sem, e0, e1, e2, e3]) rfl ⟨q1, c1, E1, rfl, HN1.out, HU1.out, hfin⟩
set_option maxHeartbeats 4000000 in
set_option maxRecDepth 100000 in
theorem harddBad (gr now a : Nat) (last : Int) (q : Option Addr) (n5 c : Nat) (w : World) (t : Int) (ht : tagB t = false) :
    Calls Try.prog 48 #[mV gr now last (.slice q n5 c), .int .i64 t, .int .u64 (a : Int)] w (BadP w gr now last (.slice q n5 c) 2) := by
  have HT := Lib.hid (fun w' => rtag_any t w')
  rw [ht] at HT
  clear ht
  go_enter Try.func48, Try.ntmps48
  go_wp2_with (go_at_call 10; refine (HT.out _).mono ?_; rintro e w' ⟨rfl, rfl⟩)
  obtain ⟨hb, e0, e1, e2, e3⟩ := badRet w (gr : Int) (now : Int) last (.slice q n5 c)
  exact bodyPost_ret (v := .tuple #[mV gr now last (.slice q n5 c), .int .i64 2]) (by simp [results, Try.results48, go_sem, e0, e1, e2, e3]) rfl ⟨rfl, hb⟩
set_option maxHeartbeats 4000000 in
set_option maxRecDepth 100000 in
theorem softdBad (gr now a : Nat) (last : Int) (q : Option Addr) (n5 c : Nat) (w : World) (t : Int) (ht : tagB t = false) :
    Calls Try.prog 49 #[mV gr now last (.slice q n5 c), .int .i64 t, .int .u64 (a : Int)] w (BadP w gr now last (.slice q n5 c) 2) := by
  have HT := Lib.hid (fun w' => rtag_any t w')
  rw [ht] at HT
  clear ht
  go_enter Try.func49, Try.ntmps49
  go_wp2_with (go_at_call 10; refine (HT.out _).mono ?_; rintro e w' ⟨rfl, rfl⟩)
  obtain ⟨hb, e0, e1, e2, e3⟩ := badRet w (gr : Int) (now : Int) last (.slice q n5 c)
  exact bodyPost_ret (v := .tuple #[mV gr now last (.slice q n5 c), .int .i64 2]) (by simp [results, Try.results49, go_sem, e0, e1, e2, e3]) rfl ⟨rfl, hb⟩
set_option maxHeartbeats 4000000 in
set_option maxRecDepth 100000 in
theorem forgetdBad (gr now : Nat) (last : Int) (q : Option Addr) (n5 c : Nat) (w : World) (t : Int) (ht : tagB t = false) :
    Calls Try.prog 51 #[mV gr now last (.slice q n5 c), .int .i64 t] w (BadP w gr now last (.slice q n5 c) 2) := by
  have HT := Lib.hid (fun w' => rtag_any t w')
  rw [ht] at HT
  clear ht
  go_enter Try.func51, Try.ntmps51
  go_wp2_with (go_at_call 10; refine (HT.out _).mono ?_; rintro e w' ⟨rfl, rfl⟩)
  obtain ⟨hb, e0, e1, e2, e3⟩ := badRet w (gr : Int) (now : Int) last (.slice q n5 c)
  exact bodyPost_ret (v := .tuple #[mV gr now last (.slice q n5 c), .int .i64 2]) (by simp [results, Try.results51, go_sem, e0, e1, e2, e3]) rfl ⟨rfl, hb⟩
end
end Go.Proofs.Ytckdfnlleaifcaa
