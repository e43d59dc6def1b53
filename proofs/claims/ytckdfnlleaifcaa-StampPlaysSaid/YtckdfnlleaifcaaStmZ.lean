/- The document's Advance. -/
import Derived.Test.YtckdfnlleaifcaaStmY
import Derived.Deep.AppendLies
namespace Go.Proofs.Ytckdfnlleaifcaa
set_option linter.unusedVariables false
open Go.RowKit Go.Maps Go.Sort

/-- A list that the document has made out of E: its blocks are new or E's own. -/
structure DocV (w w' : World) (v0 : Value) (E : List Ev) (v : Value) (E' : List Ev) : Prop where
  li : ListAt w' v E'
  bel : Below w.heap.size w w'
  lo : ∀ z, v.ownBlock = some z → (w.heap.size ≤ z ∧ z < w'.heap.size) ∨ v0.ownBlock = some z
  eo : ∀ e ∈ E', ∀ z, e.v.ownBlock = some z → (w.heap.size ≤ z ∧ z < w'.heap.size) ∨ ∃ e0 ∈ E, e0.v.ownBlock = some z
/-- The list's blocks are there. -/
def LtV (w : World) (v : Value) (E : List Ev) : Prop := (∀ z, v.ownBlock = some z → z < w.heap.size) ∧ ∀ e ∈ E, ∀ z, e.v.ownBlock = some z → z < w.heap.size
theorem LtV.size {w w' : World} {v : Value} {E : List Ev} (h : LtV w v E) (hs : w.heap.size ≤ w'.heap.size) : LtV w' v E :=
  ⟨fun z hz => Nat.lt_of_lt_of_le (h.1 z hz) hs, fun e he z hz => Nat.lt_of_lt_of_le (h.2 e he z hz) hs⟩
theorem DocV.lt {w w' : World} {v0 v : Value} {E E' : List Ev} (h : DocV w w' v0 E v E') (k : LtV w v0 E) : LtV w' v E' := by
  have hs := h.bel.size
  refine ⟨fun z hz => ?_, fun e he z hz => ?_⟩
  · rcases h.lo z hz with h1 | h1
    · exact h1.2
    · have := k.1 z h1; omega
  · rcases h.eo e he z hz with h1 | ⟨e0, h0, h1⟩
    · exact h1.2
    · have := k.2 e0 h0 z h1; omega
theorem DocV.refl {w : World} {v : Value} {E : List Ev} (h : ListAt w v E) : DocV w w v E v E := ⟨h, Below.refl _ _, fun z hz => .inr hz, fun e he z hz => .inr ⟨e, he, hz⟩⟩
theorem DocV.below {w w' w2 : World} {v0 v : Value} {E E' : List Ev} (h : DocV w w' v0 E v E') (hb : Below w'.heap.size w' w2) : DocV w w2 v0 E v E' :=
  ⟨h.li.below hb, h.bel.trans (hb.mono h.bel.size), fun z hz => (h.lo z hz).imp (fun k => ⟨k.1, Nat.lt_of_lt_of_le k.2 hb.size⟩) id, fun e he z hz => (h.eo e he z hz).imp (fun k => ⟨k.1, Nat.lt_of_lt_of_le k.2 hb.size⟩) id⟩
theorem DocV.trans {w w' w2 : World} {v0 v v2 : Value} {E E' E2 : List Ev} (h : DocV w w' v0 E v E') (k : DocV w' w2 v E' v2 E2) : DocV w w2 v0 E v2 E2 :=
  ⟨k.li, h.bel.trans (k.bel.mono h.bel.size), fun z hz => by
    rcases k.lo z hz with h1 | h1
    · exact .inl ⟨Nat.le_trans h.bel.size h1.1, h1.2⟩
    · exact (h.lo z h1).imp (fun j => ⟨j.1, Nat.lt_of_lt_of_le j.2 k.bel.size⟩) id, fun e he z hz => by
    rcases k.eo e he z hz with h1 | ⟨e0, h0, h1⟩
    · exact .inl ⟨Nat.le_trans h.bel.size h1.1, h1.2⟩
    · exact (h.eo e0 h0 z h1).imp (fun j => ⟨j.1, Nat.lt_of_lt_of_le j.2 k.bel.size⟩) id⟩
theorem KnowP.doc {w w' : World} {gr now last : Nat} {x : Tg} {E : List Ev} {e : Ending} {v0 : Value} (h : KnowP w gr now last x E e w') :
    ∃ q c E', e = .returned (mV gr now last (.slice q E'.length c)) ∧ unE E' = knowT x (unE E) ∧ DocV w w' v0 E (.slice q E'.length c) E' := by
  obtain ⟨q, c, E', h1, h2, h3, h4, h5, h6⟩ := h
  exact ⟨q, c, E', h1, h2, h3, h4, fun z hz => .inl (h5 z hz), h6⟩
/-- What the document's calls return: stamps with a list of d'. -/
def DocP (w : World) (gr now last : Nat) (v0 : Value) (E : List Ev) (d' : List Tg) (e : Ending) (w' : World) : Prop :=
  ∃ q c E', e = .returned (mV gr now last (.slice q E'.length c)) ∧ unE E' = d' ∧ DocV w w' v0 E (.slice q E'.length c) E'
/-- Advance's loop, plain: after i rounds. -/
def advI (g now i : Nat) (d : List Tg) : List Tg := (d.take i).map (normT g now) ++ d.drop i
theorem advI_zero (g now : Nat) (d : List Tg) : advI g now 0 d = d := rfl
theorem advI_all (g now : Nat) (d : List Tg) : advI g now d.length d = advD g now d := by
  unfold advI advD
  rw [List.take_length, List.drop_length, List.append_nil]
theorem advI_up {g now i : Nat} {d : List Tg} (h : TUp d) : TUp (advI g now i d) := by
  have e : advI g now i d = (d.take i).map (normT g now) ++ d.drop i := rfl
  unfold TUp at *
  rw [e]
  have h2 : (d.take i ++ d.drop i).Pairwise (fun x y => x.tag < y.tag) := by rw [List.take_append_drop]; exact h
  obtain ⟨a1, a2, a3⟩ := List.pairwise_append.1 h2
  refine List.pairwise_append.2 ⟨?_, a2, fun x hx y hy => ?_⟩
  · rw [List.pairwise_map]
    exact a1
  · obtain ⟨x0, hx0, rfl⟩ := List.mem_map.1 hx
    exact a3 x0 hx0 y hy
theorem advI_step {g now last i : Nat} {d : List Tg} {x : Tg} (h : LOk now last d) (hn : LNe d) {now' : Nat} (hx : d[i]? = some x) : knowT (normT g now' x) (advI g now' i d) = advI g now' (i + 1) d := by
  have hm := List.mem_of_getElem? hx
  have hd : d.drop i = x :: d.drop (i + 1) := by
    obtain ⟨hi, rfl⟩ := List.getElem?_eq_some_iff.1 hx
    exact List.drop_eq_getElem_cons hi
  have ht : d.take (i + 1) = d.take i ++ [x] := by rw [List.take_add_one, hx]; rfl
  have hu := advI_up (g := g) (now := now') (i := i) h.up
  unfold advI at hu ⊢
  rw [hd] at hu ⊢
  rw [ht]
  exact know_adv hu ((hn x hm).norm (h.p x hm) g now')
theorem advI_len (g now i : Nat) (d : List Tg) : (advI g now i d).length = d.length := by
  unfold advI
  rw [List.length_append, List.length_map, ← List.length_append, List.take_append_drop]
/-- Advance's boxes, and the list so far. -/
structure Av (w wr : World) (gr now last : Nat) (v0 : Value) (E : List Ev) (n5 : Nat) (q : Option Addr) (c : Nat) (E1 : List Ev) (d1 : List Tg) : Prop where
  bs : Blk wr w.heap.size 57 #[.int .u64 (gr : Int), .int .u64 (now : Int), .int .u64 (last : Int), .slice q n5 c]
  br : Blk wr (w.heap.size + 1) 57 #[.int .u64 0, .int .u64 0, .int .u64 0, .slice none 0 0]
  bel : Below w.heap.size w wr
  li : ListAt wr (.slice q n5 c) E1
  lo : ∀ z, (Value.slice q n5 c).ownBlock = some z → (w.heap.size + 2 ≤ z ∧ z < wr.heap.size) ∨ v0.ownBlock = some z
  eo : ∀ e ∈ E1, ∀ z, e.v.ownBlock = some z → (w.heap.size + 2 ≤ z ∧ z < wr.heap.size) ∨ ∃ e0 ∈ E, e0.v.ownBlock = some z
  ln : n5 = E1.length
  un : unE E1 = d1
section
variable {w wr w1 : World} {gr now last n5 n6 c c2 now2 last2 : Nat} {v0 : Value} {E E1 E2 : List Ev} {q q2 : Option Addr} {d1 d2 : List Tg}
theorem Av.below (h : Av w wr gr now last v0 E n5 q c E1 d1) (hb : Below wr.heap.size wr w1) : Av w w1 gr now last v0 E n5 q c E1 d1 :=
  ⟨h.bs.below hb h.bs.lt, h.br.below hb h.br.lt, h.bel.trans (hb.mono h.bel.size), h.li.below hb, fun z hz => (h.lo z hz).imp (fun k => ⟨k.1, Nat.lt_of_lt_of_le k.2 hb.size⟩) id, fun e he z hz => (h.eo e he z hz).imp (fun k => ⟨k.1, Nat.lt_of_lt_of_le k.2 hb.size⟩) id, h.ln, h.un⟩
theorem Av.cells (h : Av w wr gr now last v0 E n5 q c E1 d1) : wr.cell? ⟨w.heap.size, 0, none⟩ = some (.int .u64 (gr : Int)) ∧ wr.cell? ⟨w.heap.size, 1, none⟩ = some (.int .u64 (now : Int)) ∧ wr.cell? ⟨w.heap.size, 2, none⟩ = some (.int .u64 (last : Int)) ∧ wr.cell? ⟨w.heap.size, 3, none⟩ = some (.slice q n5 c) :=
  ⟨Blk.cell h.bs 0, Blk.cell h.bs 1, Blk.cell h.bs 2, Blk.cell h.bs 3⟩
def KnwP (w : World) (gr now last n5 : Nat) (v : Value) (E1 : List Ev) (d2 : List Tg) (e : Ending) (w' : World) : Prop :=
  ∃ q2 c2 E2, e = .returned (mV gr now last (.slice q2 n5 c2)) ∧ n5 = E2.length ∧ unE E2 = d2 ∧ DocV w w' v E1 (.slice q2 n5 c2) E2
theorem know_n {w : World} {gr now last n5 n6 c : Nat} {q : Option Addr} {E1 : List Ev} {d1 d2 : List Tg} (hli : ListAt w (.slice q n5 c) E1) (hln : n5 = E1.length) (hun : unE E1 = d1) (hu : TUp d1) (hE : n5 < 100000) (x : Tg) {xv : Value} (hx : SoftAt w xv x.p.soft) (hxl : x.p.soft.length ≤ 100000) (hup : ∀ y ∈ x.p.soft, y.tm ≤ 18446744073709551615) (hd : knowT (normT gr now x) d1 = d2) (hn : d2.length = n6) :
    Calls Try.prog 58 #[mV gr now last (.slice q n5 c), .agg #[.int .i64 (x.tag : Int), .int .u64 (x.p.hard : Int), xv]] w (KnwP w gr now last n6 (.slice q n5 c) E1 d2) := by
  subst hln hun hd
  refine (rknow_any hli hu hE x hx hxl hup gr now last).mono ?_
  intro e w' k
  obtain ⟨q2, c2, E2, h1, h2, h3⟩ := k.doc (v0 := .slice q E1.length c)
  have hl2 : n6 = E2.length := by rw [← hn, ← h2]; unfold unE; rw [List.length_map]
  rw [← hl2] at h1 h3
  exact ⟨q2, c2, E2, h1, hl2, h2, h3⟩
theorem Av.turn (h : Av w wr gr now last v0 E n5 q c E1 d1) (hlt : LtV w v0 E) (h1 : n6 = E2.length) (h2 : unE E2 = d2) (h3 : DocV wr w1 (.slice q n5 c) E1 (.slice q2 n6 c2) E2) :
    Av w ((((w1.setCell ⟨w.heap.size, 0, none⟩ (.int .u64 (gr : Int))).setCell ⟨w.heap.size, 1, none⟩ (.int .u64 (now2 : Int))).setCell ⟨w.heap.size, 2, none⟩ (.int .u64 (last2 : Int))).setCell ⟨w.heap.size, 3, none⟩ (.slice q2 n6 c2)) gr now2 last2 v0 E n6 q2 c2 E2 d2 := by
  have hO := ((((Only.refl (fun x => x = w.heap.size) w1).setCell1 (g := w.heap.size) (.inl rfl) 0 (.int .u64 (gr : Int))).setCell1 (g := w.heap.size) (.inl rfl) 1 (.int .u64 (now2 : Int))).setCell1 (g := w.heap.size) (.inl rfl) 2 (.int .u64 (last2 : Int))).setCell1 (g := w.heap.size) (.inl rfl) 3 (.slice q2 n6 c2)
  have hw := h3.bel
  have hs := h.br.lt
  have lo : ∀ z, (Value.slice q2 n6 c2).ownBlock = some z → (w.heap.size + 2 ≤ z ∧ z < w1.heap.size) ∨ v0.ownBlock = some z := fun z hz => by
    rcases h3.lo z hz with k | k
    · exact .inl ⟨by omega, k.2⟩
    · exact (h.lo z k).imp (fun j => ⟨j.1, Nat.lt_of_lt_of_le j.2 hw.size⟩) id
  have eo : ∀ e ∈ E2, ∀ z, e.v.ownBlock = some z → (w.heap.size + 2 ≤ z ∧ z < w1.heap.size) ∨ ∃ e0 ∈ E, e0.v.ownBlock = some z := fun e he z hz => by
    rcases h3.eo e he z hz with k | ⟨e0, k0, k⟩
    · exact .inl ⟨by omega, k.2⟩
    · exact (h.eo e0 k0 z k).imp (fun j => ⟨j.1, Nat.lt_of_lt_of_le j.2 hw.size⟩) id
  have hsz := hO.size
  refine ⟨?_, (h.br.below hw h.br.lt).only hO (by omega), (h.bel.trans (hw.mono h.bel.size)).trans (hO.below (fun x hx => by omega) (by have := h.bel.size; have := hw.size; omega)), h3.li.only hO (fun z hz e => ?_) (fun e he z hz e2 => ?_), fun z hz => (lo z hz).imp (fun j => ⟨j.1, Nat.lt_of_lt_of_le j.2 hsz⟩) id, fun e he z hz => (eo e he z hz).imp (fun j => ⟨j.1, Nat.lt_of_lt_of_le j.2 hsz⟩) id, h1, h2⟩
  · have := ((((h.bs.below hw h.bs.lt).set_ 0 (.int .u64 (gr : Int))).set_ 1 (.int .u64 (now2 : Int))).set_ 2 (.int .u64 (last2 : Int))).set_ 3 (.slice q2 n6 c2)
    simpa using this
  · rcases lo z hz with k | k
    · omega
    · have := hlt.1 z k; omega
  · rcases eo e he z hz with k | ⟨e0, k0, k⟩
    · omega
    · have := hlt.2 e0 k0 z k; omega
theorem Av.fin (h : Av w wr gr now last v0 E n5 q c E1 d1) (hlt : LtV w v0 E) {v2 : Value} {w3 w4 : World} (h3 : DocV wr w3 (.slice q n5 c) E1 v2 E2) (hO : Only (fun x => x = w.heap.size ∨ x = w.heap.size + 1) w3 w4) : DocV w w4 v0 E v2 E2 := by
  have hs := h.br.lt
  have hs2 := h3.bel.size
  have hsz := hO.size
  have lo : ∀ z, v2.ownBlock = some z → (w.heap.size + 2 ≤ z ∧ z < w3.heap.size) ∨ v0.ownBlock = some z := fun z hz => by
    rcases h3.lo z hz with k | k
    · exact .inl ⟨by omega, k.2⟩
    · exact (h.lo z k).imp (fun j => ⟨j.1, Nat.lt_of_lt_of_le j.2 hs2⟩) id
  have eo : ∀ e ∈ E2, ∀ z, e.v.ownBlock = some z → (w.heap.size + 2 ≤ z ∧ z < w3.heap.size) ∨ ∃ e0 ∈ E, e0.v.ownBlock = some z := fun e he z hz => by
    rcases h3.eo e he z hz with k | ⟨e0, k0, k⟩
    · exact .inl ⟨by omega, k.2⟩
    · exact (h.eo e0 k0 z k).imp (fun j => ⟨j.1, Nat.lt_of_lt_of_le j.2 hs2⟩) id
  refine ⟨h3.li.only hO (fun z hz e => ?_) (fun e he z hz e2 => ?_), (h.bel.trans (h3.bel.mono h.bel.size)).trans (hO.below (fun x hx => by omega) (by have := h.bel.size; omega)), fun z hz => (lo z hz).imp (fun j => ⟨by omega, by omega⟩) id, fun e he z hz => (eo e he z hz).imp (fun j => ⟨by omega, by omega⟩) id⟩
  · rcases lo z hz with k | k
    · omega
    · have := hlt.1 z k; omega
  · rcases eo e he z hz with k | ⟨e0, k0, k⟩
    · omega
    · have := hlt.2 e0 k0 z k; omega
theorem Av.self (h : Av w wr gr now last v0 E n5 q c E1 d1) : DocV wr wr (.slice q n5 c) E1 (.slice q n5 c) E1 := DocV.refl h.li
theorem Av.start {w : World} {gr now last : Nat} {p : Option Addr} {cap n5 : Nat} {E : List Ev} {d : List Tg} (hl : ListAt w (.slice p n5 cap) E) (h5 : n5 = E.length) (hd : unE E = d) : Av w ((w.alloc (.cells #[.int .u64 (gr : Int), .int .u64 (now : Int), .int .u64 (last : Int), .slice p n5 cap] 57)).alloc (.cells #[.int .u64 0, .int .u64 0, .int .u64 0, .slice none 0 0] 57)) gr now last (.slice p n5 cap) E n5 p cap E d := by
  have hb : Below w.heap.size w ((w.alloc (.cells #[.int .u64 (gr : Int), .int .u64 (now : Int), .int .u64 (last : Int), .slice p n5 cap] 57)).alloc (.cells #[.int .u64 0, .int .u64 0, .int .u64 0, .slice none 0 0] 57)) := ((Below.refl w.heap.size w).alloc (Nat.le_refl _) _).alloc (by simp) _
  exact ⟨(Blk.new _ _ _).alloc _, by simpa using Blk.new (w.alloc (.cells #[.int .u64 (gr : Int), .int .u64 (now : Int), .int .u64 (last : Int), .slice p n5 cap] 57)) 57 #[.int .u64 0, .int .u64 0, .int .u64 0, .slice none 0 0], hb, hl.below hb, fun z hz => .inr hz, fun e he z hz => .inr ⟨e, he, hz⟩, h5, hd⟩
end
set_option maxHeartbeats 8000000 in
set_option maxRecDepth 100000 in
theorem radv_any {w : World} {p : Option Addr} {cap : Nat} {E : List Ev} {now last : Nat} (hl : ListAt w (.slice p E.length cap) E) (hlt : LtV w (.slice p E.length cap) E) (hk : LOk now last (unE E)) (hn : LNe (unE E)) (hEl : E.length < 100000) (gr : Nat) (hnw : now ≤ 18446744073709551615) (a : Nat) (ha : a ≤ 18446744073709551615) :
    Calls Try.prog 50 #[mV gr now last (.slice p E.length cap), .int .u64 (a : Int)] w (DocP w gr (max now a) last (.slice p E.length cap) E (advD gr (max now a) (unE E))) := by
  have hmx : max (now : Int) (a : Int) = ((max now a : Nat) : Int) := by omega
  obtain ⟨A, hA⟩ : ∃ A, A = max now a := ⟨_, rfl⟩
  have hnA : now ≤ A := by omega
  have hA2 : A ≤ 18446744073709551615 := by omega
  rw [← hA] at hmx ⊢
  clear hA ha
  have HL := Lib.hid hl
  have HLT := Lib.hid hlt
  have HK := Lib.hid hk
  have HN := Lib.hid hn
  obtain ⟨n5, hn5⟩ : ∃ n5, n5 = E.length := ⟨_, rfl⟩
  obtain ⟨d, hd⟩ : ∃ d, d = unE E := ⟨_, rfl⟩
  have hdl : d.length = n5 := by rw [hd, hn5]; unfold unE; rw [List.length_map]
  have A0 := Lib.hid (Av.start (gr := gr) (now := A) (last := last) (hn5 ▸ hl) hn5 hd.symm)
  rw [← hn5] at hEl HL HLT ⊢
  rw [← hd] at HK HN ⊢
  have HD := Lib.hid hd
  have HN5 := Lib.hid hn5
  have HDL := Lib.hid hdl
  clear hl hlt hk hn hn5 hd hdl
  go_enter Try.func50, Try.ntmps50
  go_wp2_with fail
  generalize (w.alloc (.cells #[.int .u64 (gr : Int), .int .u64 (A : Int), .int .u64 (last : Int), .slice p n5 cap] 57)).alloc (.cells #[.int .u64 0, .int .u64 0, .int .u64 0, .slice none 0 0] 57) = W at *
  go_loopg [6] n5 (fun r s6 wr => ∃ (i : Nat) (q : Option Addr) (c : Nat) (E1 : List Ev), r + i = n5 ∧ s6 = .int .i64 (i : Int) ∧ Av w wr gr A last (.slice p n5 cap) E n5 q c E1 (advI gr A i d))
  case atStart => exact ⟨0, p, cap, E, rfl, rfl, by rw [advI_zero]; exact A0.out⟩
  case round =>
    clear A0
    obtain ⟨i, q, c, E1, hi', rfl, av⟩ := hrel
    have HI := Lib.hid hi'
    have hil : i ≤ n5 := by omega
    have AV := Lib.hid av
    obtain ⟨s0, s1, s2, s3⟩ := av.cells
    clear hi' av
    by_cases hlt : i < n5
    · obtain ⟨z, hz⟩ : ∃ z, E[i]? = some z := ⟨E[i]'(by rw [← HN5.out]; exact hlt), List.getElem?_eq_getElem _⟩
      have hdi : d[i]? = some z.x := by rw [HD.out]; unfold unE; rw [List.getElem?_map, hz]; rfl
      have hok := HK.out.p _ (List.mem_of_getElem? hdi)
      have HST := Lib.hid (advI_step (g := gr) (now' := A) HK.out HN.out hdi)
      have HUP := Lib.hid (fun y hy => Nat.le_trans (hok.tm y hy) hnw)
      have hsl := HL.out.small.2 z (List.mem_of_getElem? hz)
      have HS := Lib.hid (HL.out.soft z (List.mem_of_getElem? hz))
      obtain ⟨d0, d1, d2⟩ := evCells_get hz
      obtain ⟨pz, cz, hzv, _⟩ := (HL.out.soft z (List.mem_of_getElem? hz)).form
      obtain ⟨⟨zt, ⟨zh, zs⟩⟩, zv⟩ := z
      dsimp only at hzv d0 d1 d2 hsl HS HUP HST
      subst hzv
      obtain ⟨g9, o9, c9, he9, _, hg9, hc9⟩ := RowAt.at HL.out.row (by rw [← HN5.out]; omega)
      injection he9 with r1 r2 r3
      subst r1
      have t0 := hc9 _ _ d0
      have t1 := hc9 _ _ d1
      have t2 := hc9 _ _ d2
      rw [← Nat.add_assoc] at t1 t2
      have HZ := Lib.hid (fun (w' : World) (hb : Below w.heap.size w w') => And.intro ((hb.cell (p := ⟨g9, o9 + i * 3, none⟩) hg9).trans t0) (And.intro ((hb.cell (p := ⟨g9, o9 + i * 3 + 1, none⟩) hg9).trans t1) ((hb.cell (p := ⟨g9, o9 + i * 3 + 2, none⟩) hg9).trans t2)))
      obtain ⟨z0, z1, z2⟩ := HZ.out _ AV.out.bel
      have D0 := Lib.hid (AV.out.below ((Below.refl _ _).drew : Below wr.heap.size wr wr.drew))
      clear hz hc9 r2 r3 t0 t1 t2 d0 d1 d2 hdi hok
      have hg1 : ¬ g9 = w.heap.size := by omega
      have hg2 : ¬ w.heap.size = g9 := by omega
      obtain ⟨k00, k01, k02, k03⟩ := D0.out.cells
      go_wp2_with fail
      go_region_law (first
        | (go_simp; go_at_call 32; refine (rcopy_any zt zh (HS.out.below D0.out.bel) (by omega)).mono ?_; rintro e w3 ⟨q3, c3, B3, rfl, ow3, hB3, b3⟩; have D3 := Lib.hid (D0.out.below b3); obtain ⟨k30, k31, k32, k33⟩ := D3.out.cells; obtain ⟨y30, y31, y32⟩ := HZ.out _ D3.out.bel)
        | (go_simp; go_at_call 58; refine (know_n D3.out.li D3.out.ln D3.out.un (advI_up HK.out.up) hEl ⟨zt, ⟨zh, zs⟩⟩ (RowAt.of_own ow3) hsl HUP.out HST.out (by rw [advI_len, HDL.out])).mono ?_; rintro e w4 ⟨q4, c4, E4, rfl, hl4, hu4, dv4⟩; have D4 := Lib.hid (D3.out.below dv4.bel); obtain ⟨k40, k41, k42, k43⟩ := D4.out.cells; obtain ⟨y40, y41, y42⟩ := HZ.out _ D4.out.bel; have k4f := D4.out.bs.frozen; have HL4 := Lib.hid hl4; have HU4 := Lib.hid hu4; have HDV := Lib.hid dv4; clear hl4 hu4 dv4))
      all_goals
        clear k00 k01 k02 k03 k30 k31 k32 k33 y30 y31 y32 k40 k41 k42 k43 y40 y41 y42 z0 z1 z2
        go_wp2_with fail
        go_roundg (gk - 1)
        case measure => have := HI.out; omega
        case rel => exact ⟨i + 1, q4, c4, E4, by have := HI.out; omega, by go_num, D3.out.turn HLT.out HL4.out HU4.out HDV.out⟩
    · obtain rfl : i = n5 := by omega
      have hfull : advI gr A i d = advD gr A d := by rw [← HDL.out, advI_all]
      rw [hfull] at AV
      have rf := AV.out.br.frozen
      have r0 := AV.out.br.cell 0
      have r1 := AV.out.br.cell 1
      have r2 := AV.out.br.cell 2
      have r3 := AV.out.br.cell 3
      simp only [List.getElem?_toArray, List.getElem?_cons_zero, List.getElem?_cons_succ] at r0 r1 r2 r3
      clear hfull
      go_wp2_with fail
      have zz := (((AV.out.br.set_ 0 (.int .u64 (gr : Int))).set_ 1 (.int .u64 (A : Int))).set_ 2 (.int .u64 (last : Int))).set_ 3 (.slice q i c)
      have e0 := zz.cell 0
      have e1 := zz.cell 1
      have e2 := zz.cell 2
      have e3 := zz.cell 3
      simp only [List.setIfInBounds_toArray, List.set_cons_zero, List.set_cons_succ, List.getElem?_toArray, List.getElem?_cons_zero, List.getElem?_cons_succ] at e0 e1 e2 e3
      have hO := ((((Only.refl (fun x => x = w.heap.size ∨ x = w.heap.size + 1) wr).setCell1 (g := w.heap.size + 1) (.inl (.inr rfl)) 0 (.int .u64 (gr : Int))).setCell1 (g := w.heap.size + 1) (.inl (.inr rfl)) 1 (.int .u64 (A : Int))).setCell1 (g := w.heap.size + 1) (.inl (.inr rfl)) 2 (.int .u64 (last : Int))).setCell1 (g := w.heap.size + 1) (.inl (.inr rfl)) 3 (.slice q i c)
      have hfin := AV.out.fin HLT.out AV.out.self hO
      have hln := AV.out.ln
      exact bodyPost_ret (v := mV gr A last (.slice q i c)) (by simp [results, Try.results50, go_sem, e0, e1, e2, e3]) rfl ⟨q, c, E1, by rw [← hln], AV.out.un, by rw [← hln]; exact hfin⟩
end Go.Proofs.Ytckdfnlleaifcaa
