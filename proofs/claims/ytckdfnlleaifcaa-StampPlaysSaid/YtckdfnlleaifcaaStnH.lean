/- The law's step: state; Advance and Forget. -/
import Derived.Test.YtckdfnlleaifcaaStnG
import Derived.Test.YtckdfnlleaifcaaStmW
namespace Go.Proofs.Ytckdfnlleaifcaa
set_option linter.unusedVariables false
open Go.RowKit Go.Maps Go.Sort

/-- Stamps and the document's, alike. -/
structure Syn (w : World) (g gr now last n : Nat) (q : Option Addr) (n5 c : Nat) (E : List Ev) (d : List Tg) (O : Nat → Prop) : Prop where
  st : St w g gr now last n d O
  li : ListAt w (.slice q n5 c) E
  lt : LtV w (.slice q n5 c) E
  ln : n5 = E.length
  un : unE E = d
  lo : ∀ z, (Value.slice q n5 c).ownBlock = some z → ¬ O z
  eo : ∀ e ∈ E, ∀ z, e.v.ownBlock = some z → ¬ O z
  iv : Iv d
/-- .. and what came out of a call lies in new blocks, or where it lay. -/
structure Gon (w : World) (O : Nat → Prop) (w' : World) (O' : Nat → Prop) (v : Value) (E : List Ev) (v2 : Value) (E2 : List Ev) : Prop where
  go : Goes w O w' O'
  lo : ∀ z, v2.ownBlock = some z → w.heap.size ≤ z ∨ v.ownBlock = some z
  eo : ∀ e ∈ E2, ∀ z, e.v.ownBlock = some z → w.heap.size ≤ z ∨ ∃ e0 ∈ E, e0.v.ownBlock = some z
section
variable {w W w1 w2 w3 : World} {g g2 gr now last n now2 last2 n2 n5 n6 c c2 : Nat} {q q2 : Option Addr} {E E2 : List Ev} {d d2 : List Tg} {O O2 : Nat → Prop}
theorem Syn.dok (h : Syn w g gr now last n q n5 c E d O) (hn : n ≤ 98000) : Dok w now last q n5 c E d := by
  obtain ⟨h1, h2, h3, h4⟩ := h.st.lok
  have hl : d.length = n5 := by rw [← h.un, h.ln]; unfold unE; rw [List.length_map]
  exact ⟨h.li, h.lt, h.ln, h.un, h1, h2, by omega, fun x hx => by have := h4 x hx; omega, h.st.nb.2.1⟩
theorem Syn.below (h : Syn w g gr now last n q n5 c E d O) (hb : Below w.heap.size w w1) : Syn w1 g gr now last n q n5 c E d O :=
  ⟨h.st.below hb, h.li.below hb, h.lt.size hb.size, h.ln, h.un, h.lo, h.eo, h.iv⟩
theorem Syn.go (h : Syn w g gr now last n q n5 c E d O) (hW : Below w.heap.size w W) (hd : DocV W w1 (.slice q n5 c) E (.slice q2 n6 c2) E2) (hn : n6 = E2.length) (hu : unE E2 = d2) (hst : St w2 g2 gr now2 last2 n2 d2 O2) (hg : Goes w1 O w2 O2) (hiv : Iv d2) (ho : Only (fun x => w.heap.size ≤ x ∧ x < W.heap.size) w2 w3) :
    Syn w3 g2 gr now2 last2 n2 q2 n6 c2 E2 d2 O2 ∧ Gon w O w3 O2 (.slice q n5 c) E (.slice q2 n6 c2) E2 := by
  have s1 := hW.size
  have s2 := hd.bel.size
  have s3 := hg.only.size
  have s4 := ho.size
  have key : ∀ z, ((W.heap.size ≤ z ∧ z < w1.heap.size) ∨ (z < w.heap.size ∧ ¬ O z)) → ¬ O z ∧ ¬ O2 z ∧ ¬ (w.heap.size ≤ z ∧ z < W.heap.size) ∧ z < w3.heap.size := fun z hz => by
    rcases hz with hz | ⟨hz, hz2⟩
    · refine ⟨fun hO => by have := h.st.lt hO; omega, fun hO => ?_, by omega, by omega⟩
      rcases hg.new z hO with k | k
      · have := h.st.lt k; omega
      · omega
    · refine ⟨hz2, fun hO => ?_, by omega, by omega⟩
      rcases hg.new z hO with k | k
      · exact hz2 k
      · omega
  have lo : ∀ z, (Value.slice q2 n6 c2).ownBlock = some z → ¬ O z ∧ ¬ O2 z ∧ ¬ (w.heap.size ≤ z ∧ z < W.heap.size) ∧ z < w3.heap.size := fun z hz => key z (by
    rcases hd.lo z hz with k | k
    · exact .inl k
    · exact .inr ⟨h.lt.1 z k, h.lo z k⟩)
  have eo : ∀ e ∈ E2, ∀ z, e.v.ownBlock = some z → ¬ O z ∧ ¬ O2 z ∧ ¬ (w.heap.size ≤ z ∧ z < W.heap.size) ∧ z < w3.heap.size := fun e he z hz => key z (by
    rcases hd.eo e he z hz with k | ⟨e0, k0, k⟩
    · exact .inl k
    · exact .inr ⟨h.lt.2 e0 k0 z k, h.eo e0 k0 z k⟩)
  refine ⟨⟨hst.other ho (fun x hx => ?_), (hd.li.only hg.only (fun z hz => (lo z hz).1) (fun e he z hz => (eo e he z hz).1)).only ho (fun z hz => (lo z hz).2.2.1) (fun e he z hz => (eo e he z hz).2.2.1), ⟨fun z hz => (lo z hz).2.2.2, fun e he z hz => (eo e he z hz).2.2.2⟩, hn, hu, fun z hz => (lo z hz).2.1, fun e he z hz => (eo e he z hz).2.1, hiv⟩, ⟨⟨?_, fun x hx => ?_⟩, fun z hz => (hd.lo z hz).imp (fun k => by omega) id, fun e he z hz => (hd.eo e he z hz).imp (fun k => by omega) id⟩⟩
  · rcases hg.new x hx with k | k
    · have := h.st.lt k; omega
    · omega
  · exact (((Only.of_below hW O).trans (Only.of_below hd.bel O) (fun z hz => .inl hz)).trans hg.only (fun z hz => .inl hz)).trans ho (fun z hz => .inr hz.1)
  · rcases hg.new x hx with k | k
    · exact .inl k
    · exact .inr (by omega)
end
/-- What step returns: stamps and the document's, alike again. -/
def StepP (w : World) (O : Nat → Prop) (gr last n : Nat) (v : Value) (E : List Ev) (e : Ending) (w' : World) : Prop :=
  ∃ g2 now2 last2 n2 q2 n6 c2 E2 d2 O2, e = .returned (.tuple #[.pointer (some ⟨g2, 0, none⟩), mV (gr : Int) ((now2 : Nat) : Int) ((last2 : Nat) : Int) (.slice q2 n6 c2), .bool true]) ∧ Syn w' g2 gr now2 last2 n2 q2 n6 c2 E2 d2 O2 ∧ Gon w O w' O2 v E (.slice q2 n6 c2) E2 ∧ last2 ≤ last + 1 ∧ n2 ≤ n + 1
/-- step's boxes. -/
structure Sx (w wr : World) (gr now last : Nat) (v : Value) (what t : Int) (a : Nat) : Prop where
  bm : Blk wr w.heap.size 57 #[.int .u64 (gr : Int), .int .u64 (now : Int), .int .u64 (last : Int), v]
  ba : Blk wr (w.heap.size + 1) 34 #[.int .i64 what, .int .i64 t, .int .u64 (a : Int)]
  br : Blk wr (w.heap.size + 2) 57 #[.int .u64 0, .int .u64 0, .int .u64 0, .slice none 0 0]
theorem Sx.start (w : World) (gr now last : Nat) (v : Value) (what t : Int) (a : Nat) : Sx w (((w.alloc (.cells #[.int .u64 (gr : Int), .int .u64 (now : Int), .int .u64 (last : Int), v] 57)).alloc (.cells #[.int .i64 what, .int .i64 t, .int .u64 (a : Int)] 34)).alloc (.cells #[.int .u64 0, .int .u64 0, .int .u64 0, .slice none 0 0] 57)) gr now last v what t a ∧
    Below w.heap.size w (((w.alloc (.cells #[.int .u64 (gr : Int), .int .u64 (now : Int), .int .u64 (last : Int), v] 57)).alloc (.cells #[.int .i64 what, .int .i64 t, .int .u64 (a : Int)] 34)).alloc (.cells #[.int .u64 0, .int .u64 0, .int .u64 0, .slice none 0 0] 57)) := by
  refine ⟨⟨((Blk.new _ _ _).alloc _).alloc _, ?_, ?_⟩, (((Below.refl w.heap.size w).alloc (Nat.le_refl _) _).alloc (by simp) _).alloc (by simp; omega) _⟩
  · have := (Blk.new (w.alloc (.cells #[.int .u64 (gr : Int), .int .u64 (now : Int), .int .u64 (last : Int), v] 57)) 34 #[.int .i64 what, .int .i64 t, .int .u64 (a : Int)]).alloc (.cells #[.int .u64 0, .int .u64 0, .int .u64 0, .slice none 0 0] 57)
    simpa using this
  · have := Blk.new ((w.alloc (.cells #[.int .u64 (gr : Int), .int .u64 (now : Int), .int .u64 (last : Int), v] 57)).alloc (.cells #[.int .i64 what, .int .i64 t, .int .u64 (a : Int)] 34)) 57 #[.int .u64 0, .int .u64 0, .int .u64 0, .slice none 0 0]
    simpa using this
section
variable {w wr w1 : World} {gr now last a : Nat} {v : Value} {what t : Int}
theorem Sx.below (h : Sx w wr gr now last v what t a) (hb : Below wr.heap.size wr w1) : Sx w w1 gr now last v what t a := ⟨h.bm.below hb h.bm.lt, h.ba.below hb h.ba.lt, h.br.below hb h.br.lt⟩
theorem Sx.only {S : Nat → Prop} (h : Sx w wr gr now last v what t a) (ho : Only S wr w1) (hS : ∀ x, S x → x < w.heap.size ∨ w.heap.size + 2 < x) : Sx w w1 gr now last v what t a :=
  ⟨h.bm.only ho (fun e => by have := hS _ e; omega), h.ba.only ho (fun e => by have := hS _ e; omega), h.br.only ho (fun e => by have := hS _ e; omega)⟩
theorem Sx.cells (h : Sx w wr gr now last v what t a) : (wr.cell? ⟨w.heap.size, 0, none⟩ = some (.int .u64 (gr : Int)) ∧ wr.cell? ⟨w.heap.size, 1, none⟩ = some (.int .u64 (now : Int)) ∧ wr.cell? ⟨w.heap.size, 2, none⟩ = some (.int .u64 (last : Int)) ∧ wr.cell? ⟨w.heap.size, 3, none⟩ = some v) ∧
    (wr.cell? ⟨w.heap.size + 1, 0, none⟩ = some (.int .i64 what) ∧ wr.cell? ⟨w.heap.size + 1, 1, none⟩ = some (.int .i64 t) ∧ wr.cell? ⟨w.heap.size + 1, 2, none⟩ = some (.int .u64 (a : Int))) ∧
    (wr.cell? ⟨w.heap.size + 2, 0, none⟩ = some (.int .u64 0) ∧ wr.cell? ⟨w.heap.size + 2, 1, none⟩ = some (.int .u64 0) ∧ wr.cell? ⟨w.heap.size + 2, 2, none⟩ = some (.int .u64 0) ∧ wr.cell? ⟨w.heap.size + 2, 3, none⟩ = some (.slice none 0 0)) :=
  ⟨⟨Blk.cell h.bm 0, Blk.cell h.bm 1, Blk.cell h.bm 2, Blk.cell h.bm 3⟩, ⟨Blk.cell h.ba 0, Blk.cell h.ba 1, Blk.cell h.ba 2⟩, ⟨Blk.cell h.br 0, Blk.cell h.br 1, Blk.cell h.br 2, Blk.cell h.br 3⟩⟩
/-- The result is laid down. -/
theorem Sx.ret (h : Sx w wr gr now last v what t a) (x0 x1 x2 : Int) (v3 : Value) :
    let w4 := (((wr.setCell ⟨w.heap.size + 2, 0, none⟩ (.int .u64 x0)).setCell ⟨w.heap.size + 2, 1, none⟩ (.int .u64 x1)).setCell ⟨w.heap.size + 2, 2, none⟩ (.int .u64 x2)).setCell ⟨w.heap.size + 2, 3, none⟩ v3
    Only (fun x => w.heap.size ≤ x ∧ x < w.heap.size + 3) wr w4 ∧ w4.cell? ⟨w.heap.size + 2, 0, none⟩ = some (.int .u64 x0) ∧ w4.cell? ⟨w.heap.size + 2, 1, none⟩ = some (.int .u64 x1) ∧ w4.cell? ⟨w.heap.size + 2, 2, none⟩ = some (.int .u64 x2) ∧ w4.cell? ⟨w.heap.size + 2, 3, none⟩ = some v3 := by
  intro w4
  have hO := ((((Only.refl (fun x => w.heap.size ≤ x ∧ x < w.heap.size + 3) wr).setCell1 (g := w.heap.size + 2) (.inl ⟨by omega, by omega⟩) 0 (.int .u64 x0)).setCell1 (g := w.heap.size + 2) (.inl ⟨by omega, by omega⟩) 1 (.int .u64 x1)).setCell1 (g := w.heap.size + 2) (.inl ⟨by omega, by omega⟩) 2 (.int .u64 x2)).setCell1 (g := w.heap.size + 2) (.inl ⟨by omega, by omega⟩) 3 v3
  have zz := (((h.br.set_ 0 (.int .u64 x0)).set_ 1 (.int .u64 x1)).set_ 2 (.int .u64 x2)).set_ 3 v3
  have e0 := zz.cell 0
  have e1 := zz.cell 1
  have e2 := zz.cell 2
  have e3 := zz.cell 3
  simp only [List.setIfInBounds_toArray, List.set_cons_zero, List.set_cons_succ, List.getElem?_toArray, List.getElem?_cons_zero, List.getElem?_cons_succ] at e0 e1 e2 e3
  exact ⟨hO, e0, e1, e2, e3⟩
end
set_option maxHeartbeats 8000000 in
set_option maxRecDepth 100000 in
theorem step_adv {w : World} {g gr now last n n5 c : Nat} {q : Option Addr} {E : List Ev} {d : List Tg} {O : Nat → Prop} (h : Syn w g gr now last n q n5 c E d O) (hn : n ≤ 98000) (t : Int) (a : Nat) (ha : a ≤ 18446744073709551615) :
    Calls Try.prog 31 #[.pointer (some ⟨g, 0, none⟩), mV gr now last (.slice q n5 c), .agg #[.int .i64 3, .int .i64 t, .int .u64 (a : Int)]] w (StepP w O gr last n (.slice q n5 c) E) := by
  obtain ⟨hx, hb⟩ := Sx.start w gr now last (.slice q n5 c) 3 t a
  have SX := Lib.hid hx
  have HB := Lib.hid hb
  have HS := Lib.hid h
  clear hx hb h
  go_enter Try.func31, Try.ntmps31
  go_wp2_with fail
  generalize (((w.alloc (.cells #[.int .u64 (gr : Int), .int .u64 (now : Int), .int .u64 (last : Int), .slice q n5 c] 57)).alloc (.cells #[.int .i64 3, .int .i64 t, .int .u64 (a : Int)] 34)).alloc (.cells #[.int .u64 0, .int .u64 0, .int .u64 0, .slice none 0 0] 57)) = W at *
  have D0 := Lib.hid (SX.out.below ((Below.refl _ _).drew : Below W.heap.size W W.drew))
  have HBD := Lib.hid (HB.out.drew)
  have S0 := Lib.hid (HS.out.below HBD.out)
  have HA := Lib.hid ((S0.out.dok hn).adv gr a ha)
  obtain ⟨⟨c0, c1, c2, c3⟩, ⟨a0, a1, a2⟩, _⟩ := D0.out.cells
  have hOlt := Lib.hid (fun x (hx : O x) => HS.out.st.lt hx)
  go_region_law (first
    | (go_simp; go_at_call 50; refine HA.out.mono ?_; rintro e w1 ⟨q1, c1', E1, rfl, hn1, hu1, dv1⟩; have D1 := Lib.hid (D0.out.below dv1.bel); have S1 := Lib.hid (S0.out.st.below dv1.bel); obtain ⟨⟨k10, k11, k12, k13⟩, ⟨m10, m11, m12⟩, _⟩ := D1.out.cells; have DV := Lib.hid dv1; have HN1 := Lib.hid hn1; have HU1 := Lib.hid hu1; clear hn1 hu1 dv1)
    | (go_simp; go_at_call 16; refine (advance_any S1.out a ha).mono ?_; rintro e w2 ⟨rfl, s2, o2⟩; have S2 := Lib.hid s2; have O2 := Lib.hid o2; have D2 := Lib.hid (D1.out.only o2 (fun x hx => .inl (hOlt.out x hx))); obtain ⟨⟨k20, k21, k22, k23⟩, ⟨m20, m21, m22⟩, ⟨r20, r21, r22, r23⟩⟩ := D2.out.cells; have r2f := D2.out.br.frozen; clear s2 o2))
  all_goals
    go_wp2_with fail
    obtain ⟨ho, e0, e1, e2, e3⟩ := D2.out.ret (gr : Int) ((max now a : Nat) : Int) (last : Int) (.slice q1 n5 c1')
    have hwl := SX.out.br.lt
    obtain ⟨f1, f2⟩ := HS.out.go (w3 := _) HBD.out DV.out HN1.out HU1.out S2.out (Goes.only_ O2.out) (HS.out.iv.adv HS.out.st.lok.1 gr (max now a)) (ho.more (fun x hx => .inl ⟨hx.1, by have e5 : W.drew.heap.size = W.heap.size := rfl; omega⟩))
    exact bodyPost_ret (v := .tuple #[.pointer (some ⟨g, 0, none⟩), mV (gr : Int) ((max now a : Nat) : Int) (last : Int) (.slice q1 n5 c1'), .bool true]) (by simp [results, Try.results31, go_sem, e0, e1, e2, e3]) rfl ⟨g, max now a, last, n, q1, n5, c1', E1, _, O, rfl, f1, f2, Nat.le_succ _, Nat.le_succ _⟩
end Go.Proofs.Ytckdfnlleaifcaa
