/- The law's `is`: the parts. -/
import Derived.Test.YtckdfnlleaifcaaStmU
namespace Go.Proofs.Ytckdfnlleaifcaa
set_option linter.unusedVariables false
open Go.RowKit Go.Maps Go.Sort

/-- Stamps, the document's list and its box, apart. -/
structure Ik (w : World) (O : Nat → Prop) (g gr now last n : Nat) (d : List Tg) (A : Nat) (p : Option Addr) (cap : Nat) (E : List Ev) : Prop where
  st : St w g gr now last n d O
  li : ListAt w (.slice p E.length cap) E
  un : unE E = d
  bx : Blk w A 57 #[.int .u64 (gr : Int), .int .u64 (now : Int), .int .u64 (last : Int), .slice p E.length cap]
  ao : ¬ O A
  lo : ∀ z, (Value.slice p E.length cap).ownBlock = some z → ¬ O z
  eo : ∀ e ∈ E, ∀ z, e.v.ownBlock = some z → ¬ O z
section
variable {w w' : World} {O : Nat → Prop} {g gr now last n A cap : Nat} {d : List Tg} {p : Option Addr} {E : List Ev}
theorem Ik.below (h : Ik w O g gr now last n d A p cap E) (hb : Below w.heap.size w w') : Ik w' O g gr now last n d A p cap E :=
  ⟨h.st.below hb, h.li.below hb, h.un, h.bx.below hb h.bx.lt, h.ao, h.lo, h.eo⟩
theorem Ik.turn (h : Ik w O g gr now last n d A p cap E) (hs : St w' g gr now last n d O) (ho : Only O w w') : Ik w' O g gr now last n d A p cap E :=
  ⟨hs, h.li.only ho h.lo h.eo, h.un, h.bx.only ho h.ao, h.ao, h.lo, h.eo⟩
theorem Ik.cells (h : Ik w O g gr now last n d A p cap E) : w.cell? ⟨A, 0, none⟩ = some (.int .u64 (gr : Int)) ∧ w.cell? ⟨A, 1, none⟩ = some (.int .u64 (now : Int)) ∧ w.cell? ⟨A, 2, none⟩ = some (.int .u64 (last : Int)) ∧ w.cell? ⟨A, 3, none⟩ = some (.slice p E.length cap) :=
  ⟨Blk.cell h.bx 0, Blk.cell h.bx 1, Blk.cell h.bx 2, Blk.cell h.bx 3⟩
theorem Ik.up (h : Ik w O g gr now last n d A p cap E) : TUp (unE E) := by rw [h.un]; exact h.st.lok.1.up
theorem Ik.kn (h : Ik w O g gr now last n d A p cap E) (hn : n ≤ 100000) (t : Nat) : (knownP t d).soft.length ≤ 100000 := by
  obtain ⟨_, _, _, h4⟩ := h.st.lok
  unfold knownP
  cases hx : getT t d with
  | none => exact Nat.zero_le _
  | some x => exact Nat.le_trans (h4 x (getT_mem hx).1) hn
def LlP (w : World) (O : Nat → Prop) (g gr now last n : Nat) (d : List Tg) (e : Ending) (w' : World) : Prop :=
  ∃ q c E, e = .returned (.slice q E.length c) ∧ unE E = d ∧ ListAt w' (.slice q E.length c) E ∧ (∀ z, (Value.slice q E.length c).ownBlock = some z → w.heap.size ≤ z) ∧ (∀ e ∈ E, ∀ z, e.v.ownBlock = some z → w.heap.size ≤ z) ∧ St w' g gr now last n d O ∧ Only O w w'
theorem list_law (h : St w g gr now last n d O) (hn : n ≤ 100000) :
    Calls Try.prog 21 #[.pointer (some ⟨g, 0, none⟩)] w (LlP w O g gr now last n d) := by
  obtain ⟨_, _, hl1, hl2⟩ := h.lok
  refine (list_any h hn).mono ?_
  rintro e w' ⟨v, B, E, k1, k2, k3, k4, k5, k6, k7, k8⟩
  obtain ⟨q, c, rfl⟩ := own_form k3
  refine ⟨q, c, E, k1, k2, ⟨RowAt.of_own k3, fun x hx => RowAt.of_own (k4 x hx), ?_, fun x hx => ?_⟩, fun z hz => Nat.le_trans k6 (k3.lt z hz).1, fun x hx z hz => Nat.le_trans k6 ((k4 x hx).lt z hz).1, k7, k8⟩
  · have := congrArg List.length k2
    unfold unE at this
    rw [List.length_map] at this
    omega
  · exact Nat.le_trans (hl2 x.x (by rw [← k2]; exact List.mem_map.2 ⟨x, hx, rfl⟩)) hn
end
/-- The same, with what is known of a tag in a box. -/
structure Ix (w : World) (O : Nat → Prop) (g gr now last n : Nat) (d : List Tg) (A : Nat) (p : Option Addr) (cap : Nat) (E : List Ev) (X k : Nat) (P : Pg) (q : Option Addr) (c : Nat) : Prop where
  ik : Ik w O g gr now last n d A p cap E
  xb : Blk w X 43 #[.int .i64 (k : Int), .int .u64 (P.hard : Int), .slice q P.soft.length c]
  xs : SoftAt w (.slice q P.soft.length c) P.soft
  xo : ¬ O X
  so : ∀ z, (Value.slice q P.soft.length c).ownBlock = some z → ¬ O z
section
variable {w w' : World} {O : Nat → Prop} {g gr now last n A cap X k c : Nat} {d : List Tg} {p q : Option Addr} {E : List Ev} {P : Pg}
theorem Ix.below (h : Ix w O g gr now last n d A p cap E X k P q c) (hb : Below w.heap.size w w') : Ix w' O g gr now last n d A p cap E X k P q c :=
  ⟨h.ik.below hb, h.xb.below hb h.xb.lt, h.xs.below hb, h.xo, h.so⟩
theorem Ix.turn (h : Ix w O g gr now last n d A p cap E X k P q c) (hs : St w' g gr now last n d O) (ho : Only O w w') : Ix w' O g gr now last n d A p cap E X k P q c :=
  ⟨h.ik.turn hs ho, h.xb.only ho h.xo, h.xs.only ho h.so, h.xo, h.so⟩
end
section
variable {w w' : World} {O : Nat → Prop} {g gr now last n A cap : Nat} {d : List Tg} {p : Option Addr} {E : List Ev}
/-! ### a number that is no tag's -/
set_option maxHeartbeats 1000000 in
set_option maxRecDepth 100000 in
theorem ofl_bad (h : St w g gr now last n d O) (t : Int) (ht : tagB t = false) : Calls Try.prog 19 #[.pointer (some ⟨g, 0, none⟩), .int .i64 t, .agg #[.int .i64 0, .int .u64 0, .slice none 0 0], .int .i64 2] w fun e w' => e = .returned (.bool true) ∧ Below w.heap.size w w' := by
  have hb := (Below.refl w.heap.size w).alloc (Nat.le_refl _) (.cells #[.int .i64 0, .int .u64 0, .slice none 0 0] 43)
  have hx := Blk.new w 43 #[.int .i64 0, .int .u64 0, .slice none 0 0]
  have HO := Lib.hid (of_bad (h.below hb) t ht)
  have HB := Lib.hid hb
  have HX := Lib.hid hx
  clear hb hx h
  generalize hW : w.alloc (.cells #[.int .i64 0, .int .u64 0, .slice none 0 0] 43) = W at *
  have HW := Lib.hid hW
  have hzl := HX.out.lt
  clear hW ht
  go_enter Try.func19, Try.ntmps19
  go_wp2_with fail
  rw [HW.out]
  go_wp2_with fail
  refine HO.out.mono ?_
  rintro e w1 ⟨rfl, b1⟩
  have hx1 := HX.out.below b1 hzl
  have hb1 := (Below.refl w1.heap.size w1).alloc (Nat.le_refl _) (.cells #[.int .i64 0, .int .u64 0, .slice none 0 0] 43)
  have y0 := (hx1.below hb1 hx1.lt).cell 0
  have y1 := (hx1.below hb1 hx1.lt).cell 1
  have y2 := (hx1.below hb1 hx1.lt).cell 2
  have HC := Lib.hid (same_any (w := w1.alloc (.cells #[.int .i64 0, .int .u64 0, .slice none 0 0] 43)) (s := []) 0 0 (RowAt.nil _ _) (RowAt.nil _ _) (Nat.zero_le _))
  have HB1 := Lib.hid ((HB.out.trans (b1.mono HB.out.size)).trans (hb1.mono (Nat.le_trans HB.out.size b1.size)))
  clear HO HX b1 hx1 hb1
  go_wp2_with fail
  refine HC.out.mono ?_
  rintro e w3 ⟨rfl, b3⟩
  have HB3 := Lib.hid (HB1.out.trans (b3.mono HB1.out.size))
  clear HC b3 y0 y1 y2
  go_wp2_with fail
  go_ret
  exact ⟨rfl, HB3.out⟩
set_option maxHeartbeats 1000000 in
theorem firstl_bad (h : St w g gr now last n d O) (t : Int) (ht : tagB t = false) : Calls Try.prog 27 #[.pointer (some ⟨g, 0, none⟩), .int .i64 t, .int .u64 0, .int .u64 0, .bool false, .int .i64 2] w fun e w' => e = .returned (.bool true) ∧ w = w' := by
  have HA := Lib.hid (first_bad h t ht 0)
  clear h ht
  go_enter Try.func27, Try.ntmps27
  go_wp2_with (go_at_call 45; refine HA.out.mono ?_; rintro e w1 ⟨rfl, rfl⟩)
  go_ret
  exact ⟨rfl, rfl⟩
end
end Go.Proofs.Ytckdfnlleaifcaa
