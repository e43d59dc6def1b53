/- The examples of layer 18. -/
import Derived.Test.YtfpkeinknhijaaaGreatRevH
import Derived.Test.YtfpkeinknhijaaaGreatStrE
import Derived.Test.YtfpkeinknhijaaaGreatIntO
/- The law's helpers of layer 18, at an index of the law's own. -/
namespace Go.Proofs.YtfpkeinknhijaaaGreat
set_option linter.unusedVariables false
open Go.RowKit Go.Maps Go.Sort

set_option maxHeartbeats 1000000 in
theorem ints_any (u v : Value) (l : List Nat) (w : World) (hu : Reads w u (numsV l)) (hv : Reads w v (numsV l)) :
    Calls Tryz.prog 42 #[u, v] w fun e w' => e = .returned (.bool true) ∧ Below w.heap.size w w' := by
  obtain ⟨p, cp, rfl, hl, hu⟩ := hu
  obtain ⟨q, cq, rfl, _, hv⟩ := hv
  rw [List.length_map] at hu hv hl ⊢
  obtain ⟨N, hN⟩ : ∃ N, l.length = N := ⟨_, rfl⟩
  rw [hN] at hu hv hl ⊢
  rcases Nat.eq_zero_or_pos N with h0 | h0
  · subst h0
    clear hu hv hN hl
    go_enter Tryz.func42, Tryz.ntmps42
    go_wp2_with fail
    go_loopg [5] 0 (fun r i wr => r = 0 ∧ i = .int .i64 0 ∧ w = wr)
    case atStart => exact ⟨rfl, rfl, rfl⟩
    case round =>
      obtain ⟨_, rfl, rfl⟩ := hrel
      go_wp2_with fail
      go_ret
      exact ⟨rfl, Below.refl _ _⟩
  · rcases hu with h | ⟨b1, o1, rfl, hb1, hc1, hx1⟩
    · omega
    rcases hv with h | ⟨b2, o2, rfl, hb2, hc2, hx2⟩
    · omega
    have HN := Lib.hid hN
    have HX1 := Lib.hid hx1
    have HX2 := Lib.hid hx2
    clear hN hx1 hx2
    go_enter Tryz.func42, Tryz.ntmps42
    go_wp2_with fail
    go_loopg [5] N (fun r i wr => ∃ k : Nat, k ≤ N ∧ r + k = N ∧ i = .int .i64 k ∧ Below w.heap.size w wr)
    case atStart => exact ⟨0, by omega, by omega, rfl, Below.refl _ _⟩
    case round =>
      obtain ⟨k, hk, hr, rfl, hb⟩ := hrel
      have HR := Lib.hid hr
      have HB := Lib.hid hb
      clear hr
      by_cases hlt : k < N
      · have hg : l[k]? = some (l[k]'(by have := HN.out; omega)) := List.getElem?_eq_getElem _
        obtain ⟨X, hX⟩ : ∃ X, l[k]? = some X := ⟨_, hg⟩
        have hm : (numsV l)[k]? = some (.int .i64 (X : Int)) := by rw [List.getElem?_map, hX]; rfl
        have c1 := (hb.cell (p := ⟨b1, o1 + k, none⟩) hb1).trans (HX1.out k _ hm)
        have c2 := (hb.cell (p := ⟨b2, o2 + k, none⟩) hb2).trans (HX2.out k _ hm)
        clear hb hg hX hm
        go_wp2_with fail
        go_quiet (fail)
        go_wp2_with fail
        go_roundg (gk - 1)
        case measure => have := HR.out; omega
        case rel => exact ⟨k + 1, by omega, by have := HR.out; omega, by go_num, below_drewN HB.out _⟩
      · obtain rfl : k = N := by omega
        clear hb
        go_wp2_with fail
        go_ret
        exact ⟨rfl, HB.out⟩
set_option maxHeartbeats 1000000 in
theorem ids_any (u v : Value) (l : List Nat) (w : World) (hu : Reads w u (idsV l)) (hv : Reads w v (idsV l)) :
    Calls Tryz.prog 21 #[u, v] w fun e w' => e = .returned (.bool true) ∧ Below w.heap.size w w' := by
  obtain ⟨p, cp, rfl, hl, hu⟩ := hu
  obtain ⟨q, cq, rfl, _, hv⟩ := hv
  rw [List.length_map] at hu hv hl ⊢
  obtain ⟨N, hN⟩ : ∃ N, l.length = N := ⟨_, rfl⟩
  rw [hN] at hu hv hl ⊢
  rcases Nat.eq_zero_or_pos N with h0 | h0
  · subst h0
    clear hu hv hN hl
    go_enter Tryz.func21, Tryz.ntmps21
    go_wp2_with fail
    go_loopg [5] 0 (fun r i wr => r = 0 ∧ i = .int .i64 0 ∧ w = wr)
    case atStart => exact ⟨rfl, rfl, rfl⟩
    case round =>
      obtain ⟨_, rfl, rfl⟩ := hrel
      go_wp2_with fail
      go_ret
      exact ⟨rfl, Below.refl _ _⟩
  · rcases hu with h | ⟨b1, o1, rfl, hb1, hc1, hx1⟩
    · omega
    rcases hv with h | ⟨b2, o2, rfl, hb2, hc2, hx2⟩
    · omega
    have HN := Lib.hid hN
    have HX1 := Lib.hid hx1
    have HX2 := Lib.hid hx2
    clear hN hx1 hx2
    go_enter Tryz.func21, Tryz.ntmps21
    go_wp2_with fail
    go_loopg [5] N (fun r i wr => ∃ k : Nat, k ≤ N ∧ r + k = N ∧ i = .int .i64 k ∧ Below w.heap.size w wr)
    case atStart => exact ⟨0, by omega, by omega, rfl, Below.refl _ _⟩
    case round =>
      obtain ⟨k, hk, hr, rfl, hb⟩ := hrel
      have HR := Lib.hid hr
      have HB := Lib.hid hb
      clear hr
      by_cases hlt : k < N
      · have hg : l[k]? = some (l[k]'(by have := HN.out; omega)) := List.getElem?_eq_getElem _
        obtain ⟨X, hX⟩ : ∃ X, l[k]? = some X := ⟨_, hg⟩
        have hm : (idsV l)[k]? = some (.int .u64 (X : Int)) := by rw [List.getElem?_map, hX]; rfl
        have c1 := (hb.cell (p := ⟨b1, o1 + k, none⟩) hb1).trans (HX1.out k _ hm)
        have c2 := (hb.cell (p := ⟨b2, o2 + k, none⟩) hb2).trans (HX2.out k _ hm)
        clear hb hg hX hm
        go_wp2_with fail
        go_quiet (fail)
        go_wp2_with fail
        go_roundg (gk - 1)
        case measure => have := HR.out; omega
        case rel => exact ⟨k + 1, by omega, by have := HR.out; omega, by go_num, below_drewN HB.out _⟩
      · obtain rfl : k = N := by omega
        clear hb
        go_wp2_with fail
        go_ret
        exact ⟨rfl, HB.out⟩

theorem Reads.own_ {w : World} {B : Nat} {t : TypeId} {v : Value} {xs : List Value} {n : Nat} (h : w.ownsRow B t 1 v n xs) (hn : n = xs.length) (hl : xs.length ≤ 140737488355328) : Reads w v xs := by
  subst hn
  exact Reads.of_own h hl
/-- An index of the law's own, and what else is to be kept. -/
def Kr (V w : World) (S : Nat → Prop) (x : Nat) (most seed R : Int) (n : Nat) (d : Dx) : Prop :=
  ∃ O Rd, Ri w x most seed R n O Rd d ∧ (∀ g, O g ∨ Rd g → V.heap.size ≤ g ∧ ¬ S g) ∧ (∀ g, S g → g < w.heap.size) ∧ Below V.heap.size V w
section
variable {V w w' : World} {S : Nat → Prop} {x : Nat} {most seed R : Int} {n : Nat} {d : Dx}
theorem Ri.only {O Rd S : Nat → Prop} (h : Ri w x most seed R n O Rd d) (ho : Only S w w') (hn : ∀ g, O g ∨ Rd g → ¬ S g) : Ri w' x most seed R n O Rd d := by
  obtain ⟨tb, lb, sb, own, lm, sm, l0, h1, h2⟩ := h
  exact ⟨tb, lb, sb, own, lm, sm, l0, h1.only ho (fun g hg => hn g (hg.imp (fun h => (h2 g).2 h) (fun h => h))), h2⟩
theorem Ri.below {O Rd : Nat → Prop} (h : Ri w x most seed R n O Rd d) (hb : Below w.heap.size w w') : Ri w' x most seed R n O Rd d := h.only (Only.of_below hb (fun _ => False)) (fun _ _ h => h)
theorem Ri.lt {O Rd : Nat → Prop} (h : Ri w x most seed R n O Rd d) {g : Nat} (hg : O g ∨ Rd g) : g < w.heap.size := by
  obtain ⟨tb, lb, sb, own, lm, sm, l0, h1, h2⟩ := h
  rcases hg with hg | hg
  · obtain ⟨k, hk⟩ := Option.ne_none_iff_exists'.1 ((h2 g).1 hg)
    exact h1.olt g k hk
  · exact (h1.rd g hg).2
theorem Ri.iw {O Rd : Nat → Prop} (h : Ri w x most seed R n O Rd d) : Iw most R d ∧ d.sl.length ≤ n ∧ d.all.length ≤ n ∧ 1 ≤ most ∧ most ≤ 65536 ∧ (∀ e ∈ d.all, e.id ≤ 18446744073709551615) := by
  obtain ⟨tb, lb, sb, own, lm, sm, l0, h1, h2⟩ := h
  exact ⟨h1.iw, h1.ln.1, h1.ln.2, h1.ms.1, h1.ms.2, h1.lb64⟩
theorem Ri.mono {O Rd : Nat → Prop} (h : Ri w x most seed R n O Rd d) {R' : Int} {n' : Nat} (hR : R ≤ R') (hn : n ≤ n') : Ri w x most seed R' n' O Rd d := by
  obtain ⟨tb, lb, sb, own, lm, sm, l0, h1, h2⟩ := h
  have h3 : Ry w x tb lb sb most seed R' n own Rd lm sm l0 d := ⟨h1.bk, h1.tab, h1.nq, h1.wf.mono hR, h1.lv, h1.sv, h1.ox, h1.ol, h1.os, h1.olt, h1.rd, h1.iw.mono hR, h1.ln, h1.ms, h1.lb64⟩
  exact ⟨tb, lb, sb, own, lm, sm, l0, h3.mono hn, h2⟩
theorem Kr.bel (k : Kr V w S x most seed R n d) : Below V.heap.size V w := by
  obtain ⟨O, Rd, h1, h2, h3, h4⟩ := k
  exact h4
theorem Kr.facts (k : Kr V w S x most seed R n d) : Iw most R d ∧ d.sl.length ≤ n ∧ d.all.length ≤ n ∧ 1 ≤ most ∧ most ≤ 65536 ∧ (∀ e ∈ d.all, e.id ≤ 18446744073709551615) := by
  obtain ⟨O, Rd, h1, h2, h3, h4⟩ := k
  exact h1.iw
theorem Kr.mono (k : Kr V w S x most seed R n d) {R' : Int} {n' : Nat} (hR : R ≤ R') (hn : n ≤ n') : Kr V w S x most seed R' n' d := by
  obtain ⟨O, Rd, h1, h2, h3, h4⟩ := k
  exact ⟨O, Rd, h1.mono hR hn, h2, h3, h4⟩
theorem Kr.keep (k : Kr V w S x most seed R n d) (hb : Below w.heap.size w w') {S' : Nat → Prop} (hS : ∀ g, S' g → S g ∨ (w.heap.size ≤ g ∧ g < w'.heap.size)) : Kr V w' S' x most seed R n d := by
  obtain ⟨O, Rd, h1, h2, h3, h4⟩ := k
  refine ⟨O, Rd, h1.below hb, fun g hg => ⟨(h2 g hg).1, fun hs => ?_⟩, fun g hg => ?_, h4.trans (hb.mono h4.size)⟩
  · rcases hS g hs with h | h
    · exact (h2 g hg).2 h
    · have := h1.lt hg; omega
  · rcases hS g hg with h | h
    · have := h3 g h; have := hb.size; omega
    · exact h.2
theorem Kr.quiet (k : Kr V w S x most seed R n d) (hb : Below w.heap.size w w') : Kr V w' S x most seed R n d := k.keep hb (fun _ h => .inl h)
/-- Blocks that are kept may turn. -/
theorem Kr.other (k : Kr V w S x most seed R n d) (ho : Only S w w') (hV : ∀ g, S g → V.heap.size ≤ g) : Kr V w' S x most seed R n d := by
  obtain ⟨O, Rd, h1, h2, h3, h4⟩ := k
  exact ⟨O, Rd, h1.only ho (fun g hg => (h2 g hg).2), h2, fun g hg => Nat.lt_of_lt_of_le (h3 g hg) ho.size, h4.trans (ho.below (B := V.heap.size) hV h4.size)⟩
/-- A call on the index: what is kept has not turned. -/
theorem Kr.turn {O Rd O' Rd' : Nat → Prop} {R' : Int} {n' : Nat} {d' : Dx} (h1 : Ri w x most seed R n O Rd d) (h2 : ∀ g, O g ∨ Rd g → V.heap.size ≤ g ∧ ¬ S g) (h3 : ∀ g, S g → g < w.heap.size) (h4 : Below V.heap.size V w)
    (hr : Ri w' x most seed R' n' O' Rd' d') (hg : Goes w O w' O') (hd : ∀ g, Rd' g → Rd g ∨ w.heap.size ≤ g) : Kr V w' S x most seed R' n' d' ∧ Only (fun g => ¬ S g ∧ V.heap.size ≤ g) w w' := by
  refine ⟨⟨O', Rd', hr, fun g hg' => ?_, fun g hs => Nat.lt_of_lt_of_le (h3 g hs) hg.only.size, h4.trans (hg.only.below (fun g h => (h2 g (.inl h)).1) h4.size)⟩, hg.only.more (fun g h => .inl ⟨(h2 g (.inl h)).2, (h2 g (.inl h)).1⟩)⟩
  have hnew : O g ∨ Rd g ∨ w.heap.size ≤ g := by
    rcases hg' with h | h
    · exact (hg.new g h).imp (fun h => h) .inr
    · exact .inr (hd g h)
  rcases hnew with h | h | h
  · exact h2 g (.inl h)
  · exact h2 g (.inr h)
  · exact ⟨by have := h4.size; omega, fun hs => by have := h3 g hs; omega⟩
/-- What a law's helper leaves: true, the index as it is now, and what is kept. -/
def KrP (V w : World) (S : Nat → Prop) (x : Nat) (most seed R : Int) (n : Nat) (d : Dx) (e : Ending) (w' : World) : Prop := e = .returned (.bool true) ∧ Kr V w' S x most seed R n d ∧ Only (fun g => ¬ S g ∧ V.heap.size ≤ g) w w'
theorem KrP.quiet (k : Kr V w S x most seed R n d) (hb : Below w.heap.size w w') : KrP V w S x most seed R n d (.returned (.bool true)) w' := ⟨rfl, k.quiet hb, Only.of_below hb _⟩
theorem only_reads {v : Value} {xs : List Value} (h : Reads w v xs) (ho : Only (fun g => ¬ S g ∧ V.heap.size ≤ g) w w') (hv : ∀ g, v.ownBlock = some g → S g ∨ g < V.heap.size) : Reads w' v xs := h.only_ ho (fun g hg hs => by
  rcases hv g hg with h1 | h1
  · exact hs.1 h1
  · omega)
set_option maxHeartbeats 1000000 in
theorem Kr.adds (k : Kr V w S x most seed R n d) (hn : n ≤ 10000) (hR0 : 0 ≤ R) (hR : R ≤ 2147483000) (id : Nat) (hid : id ≤ 18446744073709551615) (v : Value) (ts : List (List UInt8)) (hv : Reads w v (ts.map encStr)) (ht : ts.length ≤ 1000) {d' : Dx} {ns : List Nat} {er : Int} (hx : d.add most id ts = (d', ns, er)) (hns : ns.length ≤ 1000)
    (wv : Value) (hw : Reads w wv (numsV ns)) (hwv : ∀ g, wv.ownBlock = some g → S g ∨ g < V.heap.size) :
    Calls Tryz.prog 10 #[.pointer (some ⟨x, 0, none⟩), .int .u64 (id : Int), v, wv, .int .i64 er] w (KrP V w S x most seed (R + 16) (n + 16) d') := by
  obtain ⟨O, Rd, h1, h2, h3, h4⟩ := k
  have H := rvadd_any h1 (Nat.le_trans hn (by decide)) hR0 hR id hid v ts hv ht
  rw [hx] at H
  have HT := Lib.hid (fun (w1 : World) O' Rd' hr hg hd => Kr.turn (S := S) (w' := w1) (O' := O') (Rd' := Rd') (R' := R + 16) (n' := n + 16) (d' := d') h1 h2 h3 h4 hr hg hd)
  have HW := Lib.hid hw
  have H := Lib.hid H
  clear h1 h2 h3 h4 hv hx hw
  go_enter Tryz.func10, Tryz.ntmps10
  go_wp2_with (first
    | (go_at_call 41; refine H.out.mono ?_; rintro e w1 ⟨v1, O', Rd', rfl, hv1, hr, hg, hd, _⟩; obtain ⟨k1, o1⟩ := HT.out w1 O' Rd' hr hg hd)
    | (go_at_call 42; refine (ints_any v1 wv ns w1 (Reads.own_ hv1 (by rw [List.length_map]) (by rw [List.length_map]; omega)) (only_reads HW.out o1 hwv)).mono ?_; rintro e w2 ⟨rfl, b2⟩))
  go_ret
  exact ⟨rfl, k1.quiet b2, o1.trans (Only.of_below b2 (fun _ => False)) (fun _ h => h.elim)⟩
set_option maxHeartbeats 1000000 in
theorem Kr.drops (k : Kr V w S x most seed R n d) (hn : n ≤ 100000) (hR : R ≤ 2147483647) (id : Nat) (hid : id ≤ 18446744073709551615) {d' : Dx} {ns : List Nat} {er : Int} (hx : d.drop id = (d', ns, er)) (hns : ns.length ≤ 1000)
    (wv : Value) (hw : Reads w wv (numsV ns)) (hwv : ∀ g, wv.ownBlock = some g → S g ∨ g < V.heap.size) :
    Calls Tryz.prog 12 #[.pointer (some ⟨x, 0, none⟩), .int .u64 (id : Int), wv, .int .i64 er] w (KrP V w S x most seed R n d') := by
  obtain ⟨O, Rd, h1, h2, h3, h4⟩ := k
  have H := rvdrop_any h1 hn hR id hid
  rw [hx] at H
  have HT := Lib.hid (fun (w1 : World) O' hr hg => Kr.turn (S := S) (w' := w1) (O' := O') (Rd' := Rd) (R' := R) (n' := n) (d' := d') h1 h2 h3 h4 hr hg (fun _ h => .inl h))
  have HW := Lib.hid hw
  have H := Lib.hid H
  clear h1 h2 h3 h4 hx hw
  go_enter Tryz.func12, Tryz.ntmps12
  go_wp2_with (first
    | (go_at_call 45; refine H.out.mono ?_; rintro e w1 ⟨v1, O', rfl, hv1, hr, hg, _⟩; obtain ⟨k1, o1⟩ := HT.out w1 O' hr hg)
    | (go_at_call 42; refine (ints_any v1 wv ns w1 (Reads.own_ hv1 (by rw [List.length_map]) (by rw [List.length_map]; omega)) (only_reads HW.out o1 hwv)).mono ?_; rintro e w2 ⟨rfl, b2⟩))
  go_ret
  exact ⟨rfl, k1.quiet b2, o1.trans (Only.of_below b2 (fun _ => False)) (fun _ h => h.elim)⟩
set_option maxHeartbeats 1000000 in
theorem Kr.cuts (k : Kr V w S x most seed R n d) (hn : n ≤ 100000) (t i : Int) {d' : Dx} {b : Bool} {er : Int} (hx : d.cut t i = (d', b, er)) :
    Calls Tryz.prog 14 #[.pointer (some ⟨x, 0, none⟩), .int .i64 t, .int .i64 i, .bool b, .int .i64 er] w (KrP V w S x most seed R (n + 1) d') := by
  obtain ⟨O, Rd, h1, h2, h3, h4⟩ := k
  have H := rvcut_any h1 hn t i
  rw [hx] at H
  have HT := Lib.hid (fun (w1 : World) hr hg => Kr.turn (S := S) (w' := w1) (O' := O) (Rd' := Rd) (R' := R) (n' := n + 1) (d' := d') h1 h2 h3 h4 hr ⟨hg, fun _ h => .inl h⟩ (fun _ h => .inl h))
  have H := Lib.hid H
  clear h1 h2 h3 h4 hx
  go_enter Tryz.func14, Tryz.ntmps14
  go_wp2_with (go_at_call 46; refine H.out.mono ?_; rintro e w1 ⟨rfl, hr, ho⟩; obtain ⟨k1, o1⟩ := HT.out w1 hr ho)
  go_ret
  exact ⟨by simp, k1, o1⟩
set_option maxHeartbeats 1000000 in
theorem Kr.slots (k : Kr V w S x most seed R n d) (hn : n ≤ 100000) (t : Int) (wv : Value) (hw : Reads w wv (idsV (slotsN d.sl t))) {er : Int} (her : er = if numB t = true then 0 else 2) :
    Calls Tryz.prog 20 #[.pointer (some ⟨x, 0, none⟩), .int .i64 t, wv, .int .i64 er] w (KrP V w S x most seed R n d) := by
  have HK := Lib.hid (fun w' hb => KrP.quiet (w' := w') k hb)
  obtain ⟨O, Rd, ⟨tb, lb, sb, own, lm, sm, l0, h1, _⟩, h2, h3, h4⟩ := k
  have H := rvslots_any h1 hn t
  have hl : (slotsN d.sl t).length ≤ 100000 := by
    unfold slotsN
    split
    · have := ofX_len d.sl t.toNat; have := h1.ln.1; omega
    · exact Nat.zero_le _
  rw [← her] at H
  generalize slotsN d.sl t = L at *
  have HW := Lib.hid hw
  have H := Lib.hid H
  clear h1 h2 h3 h4 hw her
  go_enter Tryz.func20, Tryz.ntmps20
  go_wp2_with (first
    | (go_at_call 50; refine H.out.mono ?_; rintro e w1 ⟨v1, rfl, hv1, b1⟩)
    | (go_at_call 21; refine (ids_any v1 wv L w1 (Reads.own_ hv1 rfl (by rw [List.length_map]; omega)) (HW.out.below b1)).mono ?_; rintro e w2 ⟨rfl, b2⟩))
  go_ret
  exact HK.out _ (b1.trans (b2.mono b1.size))
set_option maxHeartbeats 1000000 in
theorem Kr.nexts (k : Kr V w S x most seed R n d) (t : Int) {a b : Int} (hx : nextI d.sl t = (a, b)) :
    Calls Tryz.prog 26 #[.pointer (some ⟨x, 0, none⟩), .int .i64 t, .int .i64 a, .int .i64 b] w (KrP V w S x most seed R n d) := by
  have HK := Lib.hid (fun w' hb => KrP.quiet (w' := w') k hb)
  obtain ⟨O, Rd, ⟨tb, lb, sb, own, lm, sm, l0, h1, _⟩, h2, h3, h4⟩ := k
  have H := rvnext_any h1 t
  rw [hx] at H
  have H := Lib.hid H
  clear h1 h2 h3 h4 hx
  go_enter Tryz.func26, Tryz.ntmps26
  go_wp2_with (go_at_call 55; refine H.out.mono ?_; rintro e w1 ⟨rfl, b1⟩)
  go_ret
  exact HK.out _ b1
set_option maxHeartbeats 1000000 in
theorem Kr.finds (k : Kr V w S x most seed R n d) (s : ByteArray) (hs : s.size ≤ 140737488355328) {a b : Int} (hx : findM d.nm s.data.toList = (a, b)) :
    Calls Tryz.prog 19 #[.pointer (some ⟨x, 0, none⟩), .string s, .int .i64 a, .int .i64 b] w (KrP V w S x most seed R n d) := by
  have HK := Lib.hid (fun w' hb => KrP.quiet (w' := w') k hb)
  obtain ⟨O, Rd, ⟨tb, lb, sb, own, lm, sm, l0, h1, _⟩, h2, h3, h4⟩ := k
  have H := rvfinds_any h1 s hs
  rw [hx] at H
  have H := Lib.hid H
  clear h1 h2 h3 h4 hx
  go_enter Tryz.func19, Tryz.ntmps19
  go_wp2_with (go_at_call 49; refine H.out.mono ?_; rintro e w1 ⟨rfl, b1⟩)
  go_ret
  exact HK.out _ b1
set_option maxHeartbeats 1000000 in
theorem Kr.has (k : Kr V w S x most seed R n d) (id : Nat) (hid : id ≤ 18446744073709551615) (tv nv : Value) (ht : Reads w tv ((tagsE d.all id).map encStr)) (hn : Reads w nv (numsV (numsE d.all id))) (hl : (tagsE d.all id).length ≤ 1000 ∧ (numsE d.all id).length ≤ 1000) {er : Int} (her : er = errE d.all id) :
    Calls Tryz.prog 27 #[.pointer (some ⟨x, 0, none⟩), .int .u64 (id : Int), tv, nv, .int .i64 er] w (KrP V w S x most seed R n d) := by
  have HK := Lib.hid (fun w' hb => KrP.quiet (w' := w') k hb)
  obtain ⟨O, Rd, ⟨tb, lb, sb, own, lm, sm, l0, h1, _⟩, h2, h3, h4⟩ := k
  have H := Lib.hid (rvtags_any h1 id hid)
  have H2 := Lib.hid (fun W hb => rvnums_any (h1.below (w' := W) hb) id hid)
  rw [← her] at H H2
  have HT := Lib.hid ht
  have HN := Lib.hid hn
  generalize tagsE d.all id = T at *
  generalize numsE d.all id = L at *
  clear h1 h2 h3 h4 ht hn her
  go_enter Tryz.func27, Tryz.ntmps27
  go_wp2_with (first
    | (go_at_call 56; refine H.out.mono ?_; rintro e w1 ⟨v1, rfl, hv1, b1⟩)
    | (go_at_call 57; refine (H2.out _ b1).mono ?_; rintro e w2 ⟨v2, rfl, hv2, b2⟩; have hv1b := ownsRow_below hv1 b2; have b12 := b1.trans (b2.mono b1.size))
    | (go_at_call 24; refine (strings_any v1 tv T w2 (Reads.own_ hv1b rfl (by rw [List.length_map]; omega)) (HT.out.below b12)).mono ?_; rintro e w3 ⟨rfl, b3⟩; have b13 := b12.trans (b3.mono b12.size))
    | (go_at_call 42; refine (ints_any v2 nv L w3 (Reads.own_ (ownsRow_below hv2 b3) rfl (by rw [List.length_map]; omega)) (HN.out.below b13)).mono ?_; rintro e w4 ⟨rfl, b4⟩))
  go_ret
  exact HK.out _ (b13.trans (b4.mono b13.size))
set_option maxHeartbeats 1000000 in
theorem Kr.sizes (k : Kr V w S x most seed R n d) {a b : Int} (ha : a = d.sl.length) (hb : b = wrongX d.all d.sl) :
    Calls Tryz.prog 23 #[.pointer (some ⟨x, 0, none⟩), .int .i64 a, .int .i64 b] w (KrP V w S x most seed R n d) := by
  have HK := Lib.hid (fun w' hb => KrP.quiet (w' := w') k hb)
  obtain ⟨O, Rd, ⟨tb, lb, sb, own, lm, sm, l0, h1, _⟩, h2, h3, h4⟩ := k
  have H := rvsizes_any h1
  rw [← ha, ← hb] at H
  have H := Lib.hid H
  clear h1 h2 h3 h4 ha hb
  go_enter Tryz.func23, Tryz.ntmps23
  go_wp2_with (go_at_call 15; refine H.out.mono ?_; rintro e w1 ⟨rfl, b1⟩)
  go_ret
  exact HK.out _ b1
set_option maxHeartbeats 1000000 in
theorem Kr.rooms (k : Kr V w S x most seed R n d) {a : Int} (ha : a = liveN d.nm) :
    Calls Tryz.prog 28 #[.pointer (some ⟨x, 0, none⟩), .int .i64 a, .int .i64 most] w (KrP V w S x most seed R n d) := by
  have HK := Lib.hid (fun w' hb => KrP.quiet (w' := w') k hb)
  obtain ⟨O, Rd, ⟨tb, lb, sb, own, lm, sm, l0, h1, _⟩, h2, h3, h4⟩ := k
  have H := rvroom_any h1
  rw [← ha] at H
  have H := Lib.hid H
  clear h1 h2 h3 h4 ha
  go_enter Tryz.func28, Tryz.ntmps28
  go_wp2_with (go_at_call 58; refine H.out.mono ?_; rintro e w1 ⟨rfl, b1⟩)
  go_ret
  exact HK.out _ b1
end
end Go.Proofs.YtfpkeinknhijaaaGreat
namespace Go.Proofs.YtfpkeinknhijaaaGreat
set_option linter.unusedVariables false
open Go.RowKit Go.Maps Go.Sort

theorem reads_lit (w : World) (l : List Value) (t : TypeId) (n : Nat) (hn : n = l.length) (h : l.length ≤ 1000000) : Reads (w.alloc (.cells l.toArray t)) (.slice (some ⟨w.heap.size, 0, none⟩) n n) l := by
  subst hn
  refine ⟨_, _, rfl, by omega, .inr ⟨w.heap.size, 0, rfl, by simp, Nat.le_refl _, fun i x hx => ?_⟩⟩
  rw [Nat.zero_add, Blk.cell (Blk.new w t l.toArray) i]
  simpa using hx
section
variable {V w : World} {S : Nat → Prop} {x : Nat} {most seed R : Int} {n : Nat} {d : Dx}
theorem Kr.alloc (k : Kr V w S x most seed R n d) (o : Obj) : Kr V (w.alloc o) (fun g => S g ∨ g = w.heap.size) x most seed R n d := k.keep ((Below.refl _ _).alloc (Nat.le_refl _) o) (fun g hg => hg.imp (fun h => h) (fun h => ⟨by omega, by rw [h]; simp⟩))
/-- What is no longer kept. -/
theorem Kr.less (k : Kr V w S x most seed R n d) {S' : Nat → Prop} (h : ∀ g, S' g → S g) : Kr V w S' x most seed R n d := k.keep (Below.refl _ _) (fun g hg => .inl (h g hg))
theorem KrP.less {W : World} {S' : Nat → Prop} {V : World} {x : Nat} {most seed R : Int} {n : Nat} {d : Dx} {e : Ending} {w' : World} (h : KrP V W S x most seed R n d e w') (hs : ∀ g, S' g → S g) : e = .returned (.bool true) ∧ Kr V w' S' x most seed R n d := ⟨h.1, h.2.1.less hs⟩
theorem Kr.adds2 (k : Kr V w S x most seed R n d) (hn : n ≤ 10000) (hR0 : 0 ≤ R) (hR : R ≤ 2147483000) (id : Nat) (idI : Int) (hI : idI = (id : Int)) (hid : id ≤ 18446744073709551615) (T : List (List UInt8)) (ns : List Nat) (tv nv : List Value) (a b : Nat) (htv : tv = T.map encStr) (hnv : nv = numsV ns) (ha : a = T.length) (hb : b = ns.length) (hl : T.length ≤ 1000) (hl2 : ns.length ≤ 1000) {er : Int} (hx : (d.add most id T).2 = (ns, er)) :
    Calls Tryz.prog 10 #[.pointer (some ⟨x, 0, none⟩), .int .u64 idI, .slice (some ⟨w.heap.size, 0, none⟩) a a, .slice (some ⟨w.heap.size + 1, 0, none⟩) b b, .int .i64 er] ((w.alloc (.cells tv.toArray 9)).alloc (.cells nv.toArray 3)) fun e w' => e = .returned (.bool true) ∧ Kr V w' S x most seed (R + 16) (n + 16) (d.add most id T).1 := by
  subst hI htv hnv ha hb
  have k2 := (k.alloc (.cells (T.map encStr).toArray 9)).alloc (.cells (numsV ns).toArray 3)
  have hs : (w.alloc (.cells (T.map encStr).toArray 9)).heap.size = w.heap.size + 1 := by simp
  rw [hs] at k2
  have hr1 := (reads_lit w (T.map encStr) 9 T.length (by simp) (by simp; omega)).below ((Below.refl _ _).alloc (Nat.le_refl _) (.cells (numsV ns).toArray 3))
  have hr2 := reads_lit (w.alloc (.cells (T.map encStr).toArray 9)) (numsV ns) 3 ns.length (by simp) (by simp; omega)
  rw [hs] at hr2
  refine (k2.adds hn hR0 hR id hid _ T hr1 hl (d' := (d.add most id T).1) (ns := ns) (er := er) (by rw [← hx]) hl2 _ hr2 (fun g hg => .inl (.inr (by simpa [Value.ownBlock] using hg.symm)))).mono ?_
  intro e w' h
  exact h.less (fun g hg => .inl (.inl hg))
theorem Kr.adds1 (k : Kr V w S x most seed R n d) (hn : n ≤ 10000) (hR0 : 0 ≤ R) (hR : R ≤ 2147483000) (id : Nat) (idI : Int) (hI : idI = (id : Int)) (hid : id ≤ 18446744073709551615) (T : List (List UInt8)) (tv : List Value) (a : Nat) (htv : tv = T.map encStr) (ha : a = T.length) (hl : T.length ≤ 1000) {er : Int} (hx : (d.add most id T).2 = ([], er)) :
    Calls Tryz.prog 10 #[.pointer (some ⟨x, 0, none⟩), .int .u64 idI, .slice (some ⟨w.heap.size, 0, none⟩) a a, .slice none 0 0, .int .i64 er] (w.alloc (.cells tv.toArray 9)) fun e w' => e = .returned (.bool true) ∧ Kr V w' S x most seed (R + 16) (n + 16) (d.add most id T).1 := by
  subst hI htv ha
  have k2 := k.alloc (.cells (T.map encStr).toArray 9)
  have hr1 := reads_lit w (T.map encStr) 9 T.length (by simp) (by simp; omega)
  refine (k2.adds hn hR0 hR id hid _ T hr1 hl (d' := (d.add most id T).1) (ns := []) (er := er) (by rw [← hx]) (by decide) _ (Reads.nil _ _ _) (fun g hg => by simp [Value.ownBlock] at hg)).mono ?_
  intro e w' h
  exact h.less (fun g hg => .inl hg)
theorem Kr.drops1 (k : Kr V w S x most seed R n d) (hn : n ≤ 100000) (hR : R ≤ 2147483647) (id : Nat) (idI : Int) (hI : idI = (id : Int)) (hid : id ≤ 18446744073709551615) (ns : List Nat) (nv : List Value) (b : Nat) (hnv : nv = numsV ns) (hb : b = ns.length) (hl2 : ns.length ≤ 1000) {er : Int} (hx : (d.drop id).2 = (ns, er)) :
    Calls Tryz.prog 12 #[.pointer (some ⟨x, 0, none⟩), .int .u64 idI, .slice (some ⟨w.heap.size, 0, none⟩) b b, .int .i64 er] (w.alloc (.cells nv.toArray 3)) fun e w' => e = .returned (.bool true) ∧ Kr V w' S x most seed R n (d.drop id).1 := by
  subst hI hnv hb
  have k2 := k.alloc (.cells (numsV ns).toArray 3)
  have hr2 := reads_lit w (numsV ns) 3 ns.length (by simp) (by simp; omega)
  refine (k2.drops hn hR id hid (d' := (d.drop id).1) (ns := ns) (er := er) (by rw [← hx]) hl2 _ hr2 (fun g hg => .inl (.inr (by simpa [Value.ownBlock] using hg.symm)))).mono ?_
  intro e w' h
  exact h.less (fun g hg => .inl hg)
theorem Kr.drops0 (k : Kr V w S x most seed R n d) (hn : n ≤ 100000) (hR : R ≤ 2147483647) (id : Nat) (idI : Int) (hI : idI = (id : Int)) (hid : id ≤ 18446744073709551615) {er : Int} (hx : (d.drop id).2 = ([], er)) :
    Calls Tryz.prog 12 #[.pointer (some ⟨x, 0, none⟩), .int .u64 idI, .slice none 0 0, .int .i64 er] w fun e w' => e = .returned (.bool true) ∧ Kr V w' S x most seed R n (d.drop id).1 := by
  subst hI
  refine (k.drops hn hR id hid (d' := (d.drop id).1) (ns := []) (er := er) (by rw [← hx]) (by decide) _ (Reads.nil _ _ _) (fun g hg => by simp [Value.ownBlock] at hg)).mono ?_
  intro e w' h
  exact ⟨h.1, h.2.1⟩
theorem Kr.slots1 (k : Kr V w S x most seed R n d) (hn : n ≤ 100000) (t : Int) (L : List Nat) (nv : List Value) (b : Nat) (hnv : nv = idsV L) (hb : b = L.length) (hl : L.length ≤ 1000) (ht : numB t = true) (hx : ofX d.sl t.toNat = L) :
    Calls Tryz.prog 20 #[.pointer (some ⟨x, 0, none⟩), .int .i64 t, .slice (some ⟨w.heap.size, 0, none⟩) b b, .int .i64 0] (w.alloc (.cells nv.toArray 22)) fun e w' => e = .returned (.bool true) ∧ Kr V w' S x most seed R n d := by
  subst hnv hb
  have k2 := k.alloc (.cells (idsV L).toArray 22)
  have hr2 := reads_lit w (idsV L) 22 L.length (by simp) (by simp; omega)
  have hs : slotsN d.sl t = L := by unfold slotsN; rw [if_pos ht, hx]
  refine (k2.slots hn t _ (by rw [hs]; exact hr2) (by rw [if_pos ht])).mono ?_
  intro e w' h
  exact h.less (fun g hg => .inl hg)
theorem Kr.has2 (k : Kr V w S x most seed R n d) (id : Nat) (idI : Int) (hI : idI = (id : Int)) (hid : id ≤ 18446744073709551615) (T : List (List UInt8)) (ns : List Nat) (tv nv : List Value) (a b : Nat) (htv : tv = T.map encStr) (hnv : nv = numsV ns) (ha : a = T.length) (hb : b = ns.length) (hl : T.length ≤ 1000) (hl2 : ns.length ≤ 1000) (h1 : tagsE d.all id = T) (h2 : numsE d.all id = ns) {er : Int} (her : er = errE d.all id) :
    Calls Tryz.prog 27 #[.pointer (some ⟨x, 0, none⟩), .int .u64 idI, .slice (some ⟨w.heap.size, 0, none⟩) a a, .slice (some ⟨w.heap.size + 1, 0, none⟩) b b, .int .i64 er] ((w.alloc (.cells tv.toArray 9)).alloc (.cells nv.toArray 3)) fun e w' => e = .returned (.bool true) ∧ Kr V w' S x most seed R n d := by
  subst hI htv hnv ha hb
  have k2 := (k.alloc (.cells (T.map encStr).toArray 9)).alloc (.cells (numsV ns).toArray 3)
  have hs : (w.alloc (.cells (T.map encStr).toArray 9)).heap.size = w.heap.size + 1 := by simp
  rw [hs] at k2
  have hr1 := (reads_lit w (T.map encStr) 9 T.length (by simp) (by simp; omega)).below ((Below.refl _ _).alloc (Nat.le_refl _) (.cells (numsV ns).toArray 3))
  have hr2 := reads_lit (w.alloc (.cells (T.map encStr).toArray 9)) (numsV ns) 3 ns.length (by simp) (by simp; omega)
  rw [hs] at hr2
  refine (k2.has id hid _ _ (by rw [h1]; exact hr1) (by rw [h2]; exact hr2) (by rw [h1, h2]; exact ⟨hl, hl2⟩) her).mono ?_
  intro e w' h
  exact h.less (fun g hg => .inl (.inl hg))
/-- Right, beside a list of the law's own. -/
theorem Kr.rights (k : Kr V w S x most seed R n d) (hn : n ≤ 100000) (s : ByteArray) (hs : s.size ≤ 140737488355328) :
    Calls Tryz.prog 22 #[.pointer (some ⟨x, 0, none⟩), .string s] w fun e w' => ∃ v, e = .returned v ∧ w'.ownsRow w.heap.size 22 1 v (rightX d.all s.data.toList).length (idsV (rightX d.all s.data.toList)) ∧ Below w.heap.size w w' ∧ Kr V w' S x most seed R n d := by
  have hk := k
  obtain ⟨O, Rd, ⟨tb, lb, sb, own, lm, sm, l0, h1, _⟩, h2, h3, h4⟩ := k
  refine (rvright_any h1 hn s hs).mono ?_
  rintro e w' ⟨v, rfl, hv, hb⟩
  rw [List.length_map] at hv
  exact ⟨v, rfl, hv, hb, hk.quiet hb⟩
theorem Kr.knowns (k : Kr V w S x most seed R n d) :
    Calls Tryz.prog 25 #[.pointer (some ⟨x, 0, none⟩)] w fun e w' => ∃ v, e = .returned v ∧ w'.ownsRow w.heap.size 9 1 v (namesL d.nm).length ((namesL d.nm).map encStr) ∧ Below w.heap.size w w' ∧ Kr V w' S x most seed R n d := by
  have hk := k
  obtain ⟨O, Rd, ⟨tb, lb, sb, own, lm, sm, l0, h1, _⟩, h2, h3, h4⟩ := k
  refine (rvknown_any h1).mono ?_
  rintro e w' ⟨v, rfl, hv, hb⟩
  exact ⟨v, rfl, hv, hb, hk.quiet hb⟩
end
theorem Kr.start (V w : World) (hV : Below V.heap.size V w) (most seed : Int) (h1 : 1 ≤ most) (h2 : most ≤ 65536) (s0 : 0 ≤ seed) (s1 : seed ≤ 18446744073709551615) :
    Calls Tryz.prog 6 #[.int .i64 most, .int .u64 seed] w fun e w' => ∃ x, e = .returned (.tuple #[.pointer (some ⟨x, 0, none⟩), .int .i64 0]) ∧ Kr V w' (fun _ => False) x most seed 0 0 ⟨[], [], []⟩ ∧ Below w.heap.size w w' := by
  refine (rvnew_ok most seed h1 h2 s0 s1 w).mono ?_
  rintro e w' ⟨x, O, rfl, hr, ho, hb⟩
  exact ⟨x, rfl, ⟨O, fun _ => False, hr, fun g hg => ⟨by rcases hg with hg | hg; have := ho g hg; have := hV.size; omega; exact hg.elim, fun h => h⟩, fun _ h => h.elim, hV.trans (hb.mono hV.size)⟩, hb⟩
def kd0 : Dx := ⟨[], [], []⟩
def kd1 : Dx := (kd0.add 3 1 [[98, 108, 117, 101], [114, 101, 100]]).1
def kd2 : Dx := (kd1.add 3 2 [[114, 101, 100]]).1
def kd3 : Dx := (kd2.add 3 5 [[103, 114, 101, 101, 110]]).1
def kd4 : Dx := (kd3.add 3 6 [[112, 105, 110, 107]]).1
def kd5 : Dx := (kd4.drop 1).1
def kd6 : Dx := (kd5.add 3 7 [[112, 105, 110, 107], [114, 101, 100]]).1
def kd7 : Dx := (kd6.cut 1 0).1
def kd8 : Dx := (kd7.cut 1 0).1
def kd9 : Dx := (kd8.cut 0 5).1
def kd10 : Dx := (kd9.add 3 7 [[114, 101, 100]]).1
def kd11 : Dx := (kd10.add 3 8 [[114, 101, 100], [98, 108, 117, 101]]).1
def kd12 : Dx := (kd11.drop 1).1
theorem known_names : namesL kd6.nm = [[103, 114, 101, 101, 110], [112, 105, 110, 107], [114, 101, 100]] := by
  unfold namesL
  rw [isortB_is]
  decide +kernel
set_option maxHeartbeats 8000000 in
set_option maxRecDepth 100000 in
theorem rknown_any (w0 : World) :
    Calls Tryz.prog 7 #[] w0 fun e w' => e = .returned (.bool true) ∧ Below w0.heap.size w0 w' := by
  go_enter Tryz.func7, Tryz.ntmps7
  go_wp2_with fail
  refine (Kr.start w0 w0 (Below.refl _ _) 3 1 (by decide) (by decide) (by decide) (by decide)).mono ?_
  rintro e v0 ⟨x, rfl, s0', _⟩
  have s0 : Kr w0 v0 (fun _ => False) x 3 1 0 0 kd0 := s0'
  clear s0' 
  go_wp2_with fail
  refine (s0.adds2 (by decide) (by decide) (by decide) 1 1 rfl (by decide) [[98, 108, 117, 101], [114, 101, 100]] [0, 1] _ _ 2 2 rfl rfl rfl rfl (by decide) (by decide) (er := 0) (by decide +kernel)).mono ?_
  rintro e v1 ⟨rfl, s1'⟩
  have s1 : Kr w0 v1 (fun _ => False) x 3 1 16 16 kd1 := s1'
  clear s0 s1'
  go_wp2_with fail
  refine (s1.adds2 (by decide) (by decide) (by decide) 2 2 rfl (by decide) [[114, 101, 100]] [1] _ _ 1 1 rfl rfl rfl rfl (by decide) (by decide) (er := 0) (by decide +kernel)).mono ?_
  rintro e v2 ⟨rfl, s2'⟩
  have s2 : Kr w0 v2 (fun _ => False) x 3 1 32 32 kd2 := s2'
  clear s1 s2'
  go_wp2_with fail
  refine (s2.adds2 (by decide) (by decide) (by decide) 5 5 rfl (by decide) [[103, 114, 101, 101, 110]] [2] _ _ 1 1 rfl rfl rfl rfl (by decide) (by decide) (er := 0) (by decide +kernel)).mono ?_
  rintro e v3 ⟨rfl, s3'⟩
  have s3 : Kr w0 v3 (fun _ => False) x 3 1 48 48 kd3 := s3'
  clear s2 s3'
  go_wp2_with fail
  refine (s3.adds1 (by decide) (by decide) (by decide) 6 6 rfl (by decide) [[112, 105, 110, 107]] _ 1 rfl rfl (by decide) (er := 7) (by decide +kernel)).mono ?_
  rintro e v4 ⟨rfl, s4'⟩
  have s4 : Kr w0 v4 (fun _ => False) x 3 1 64 64 kd4 := s4'
  clear s3 s4'
  go_wp2_with fail
  refine (s4.drops1 (by decide) (by decide) 1 1 rfl (by decide) [0] _ 1 rfl rfl (by decide) (er := 0) (by decide +kernel)).mono ?_
  rintro e v5 ⟨rfl, s5'⟩
  have s5 : Kr w0 v5 (fun _ => False) x 3 1 64 64 kd5 := s5'
  clear s4 s5'
  go_wp2_with fail
  refine ((s5.finds ⟨#[98, 108, 117, 101]⟩ (by decide) (a := 0) (b := 9) (by decide +kernel)).mono fun e w h => (⟨h.1, h.2.1⟩ : e = .returned (.bool true) ∧ Kr w0 w _ _ _ _ _ _ _)).mono ?_
  rintro e v6 ⟨rfl, s6'⟩
  have s6 : Kr w0 v6 (fun _ => False) x 3 1 64 64 kd5 := s6'
  clear s5 s6'
  go_wp2_with fail
  refine (s6.slots1 (by decide) 0 [1] _ 1 rfl rfl (by decide) (by decide) (by decide +kernel)).mono ?_
  rintro e v7 ⟨rfl, s7'⟩
  have s7 : Kr w0 v7 (fun _ => False) x 3 1 64 64 kd5 := s7'
  clear s6 s7'
  go_wp2_with fail
  refine (s7.slots1 (by decide) 1 [1, 2] _ 2 rfl rfl (by decide) (by decide) (by decide +kernel)).mono ?_
  rintro e v8 ⟨rfl, s8'⟩
  have s8 : Kr w0 v8 (fun _ => False) x 3 1 64 64 kd5 := s8'
  clear s7 s8'
  go_wp2_with fail
  refine (s8.adds2 (by decide) (by decide) (by decide) 7 7 rfl (by decide) [[112, 105, 110, 107], [114, 101, 100]] [0, 1] _ _ 2 2 rfl rfl rfl rfl (by decide) (by decide) (er := 0) (by decide +kernel)).mono ?_
  rintro e v9 ⟨rfl, s9'⟩
  have s9 : Kr w0 v9 (fun _ => False) x 3 1 80 80 kd6 := s9'
  clear s8 s9'
  go_wp2_with fail
  refine (s9.slots1 (by decide) 0 [1, 7] _ 2 rfl rfl (by decide) (by decide) (by decide +kernel)).mono ?_
  rintro e v10 ⟨rfl, s10'⟩
  have s10 : Kr w0 v10 (fun _ => False) x 3 1 80 80 kd6 := s10'
  clear s9 s10'
  go_wp2_with fail
  refine (s10.slots1 (by decide) 1 [1, 2, 7] _ 3 rfl rfl (by decide) (by decide) (by decide +kernel)).mono ?_
  rintro e v11 ⟨rfl, s11'⟩
  have s11 : Kr w0 v11 (fun _ => False) x 3 1 80 80 kd6 := s11'
  clear s10 s11'
  go_wp2_with fail
  refine (s11.rights (by decide) ⟨#[114, 101, 100]⟩ (by decide)).mono ?_
  rintro e v12a ⟨vr, rfl, or_, br, sr⟩
  rw [show rightX kd6.all (⟨#[114, 101, 100]⟩ : ByteArray).data.toList = [2, 7] by decide +kernel] at or_
  clear s11
  go_wp2_with fail
  have sq := sr.quiet ((Below.refl v12a.heap.size v12a).alloc (Nat.le_refl _) (.cells (idsV [2, 7]).toArray 22))
  refine (ids_any _ _ [2, 7] _ ((Reads.own_ or_ rfl (by decide)).below ((Below.refl v12a.heap.size v12a).alloc (Nat.le_refl _) (.cells (idsV [2, 7]).toArray 22))) (reads_lit v12a (idsV [2, 7]) 22 2 rfl (by decide))).mono ?_
  rintro e v12 ⟨rfl, b2⟩
  have s12 := sq.quiet b2
  clear sr sq or_ br b2
  go_wp2_with fail
  refine ((s12.sizes (a := 6) (b := 2) (by decide +kernel) (by decide +kernel)).mono fun e w h => (⟨h.1, h.2.1⟩ : e = .returned (.bool true) ∧ Kr w0 w _ _ _ _ _ _ _)).mono ?_
  rintro e v13 ⟨rfl, s13'⟩
  have s13 : Kr w0 v13 (fun _ => False) x 3 1 80 80 kd6 := s13'
  clear s12 s13'
  go_wp2_with fail
  refine s13.knowns.mono ?_
  rintro e v14a ⟨vr, rfl, or_, br, sr⟩
  rw [known_names] at or_
  clear s13
  go_wp2_with fail
  have sq := sr.quiet ((Below.refl v14a.heap.size v14a).alloc (Nat.le_refl _) (.cells ([[103, 114, 101, 101, 110], [112, 105, 110, 107], [114, 101, 100]].map encStr).toArray 9))
  refine (strings_any _ _ [[103, 114, 101, 101, 110], [112, 105, 110, 107], [114, 101, 100]] _ ((Reads.own_ or_ rfl (by decide)).below ((Below.refl v14a.heap.size v14a).alloc (Nat.le_refl _) (.cells ([[103, 114, 101, 101, 110], [112, 105, 110, 107], [114, 101, 100]].map encStr).toArray 9))) (reads_lit v14a ([[103, 114, 101, 101, 110], [112, 105, 110, 107], [114, 101, 100]].map encStr) 9 3 rfl (by decide))).mono ?_
  rintro e v14 ⟨rfl, b2⟩
  have s14 := sq.quiet b2
  clear sr sq or_ br b2
  go_wp2_with fail
  refine ((s14.cuts (by decide) 1 0 (d' := (kd6.cut 1 0).1) (b := true) (er := 0) (Prod.ext rfl (by decide +kernel))).mono fun e w h => (⟨h.1, h.2.1⟩ : e = .returned (.bool true) ∧ Kr w0 w _ _ _ _ _ _ _)).mono ?_
  rintro e v15 ⟨rfl, s15'⟩
  have s15 : Kr w0 v15 (fun _ => False) x 3 1 80 81 kd7 := s15'
  clear s14 s15'
  go_wp2_with fail
  refine ((s15.cuts (by decide) 1 0 (d' := (kd7.cut 1 0).1) (b := false) (er := 0) (Prod.ext rfl (by decide +kernel))).mono fun e w h => (⟨h.1, h.2.1⟩ : e = .returned (.bool true) ∧ Kr w0 w _ _ _ _ _ _ _)).mono ?_
  rintro e v16 ⟨rfl, s16'⟩
  have s16 : Kr w0 v16 (fun _ => False) x 3 1 80 82 kd8 := s16'
  clear s15 s16'
  go_wp2_with fail
  refine ((s16.cuts (by decide) 0 5 (d' := (kd8.cut 0 5).1) (b := false) (er := 9) (Prod.ext rfl (by decide +kernel))).mono fun e w h => (⟨h.1, h.2.1⟩ : e = .returned (.bool true) ∧ Kr w0 w _ _ _ _ _ _ _)).mono ?_
  rintro e v17 ⟨rfl, s17'⟩
  have s17 : Kr w0 v17 (fun _ => False) x 3 1 80 83 kd9 := s17'
  clear s16 s17'
  go_wp2_with fail
  refine (s17.slots1 (by decide) 1 [2, 7] _ 2 rfl rfl (by decide) (by decide) (by decide +kernel)).mono ?_
  rintro e v18 ⟨rfl, s18'⟩
  have s18 : Kr w0 v18 (fun _ => False) x 3 1 80 83 kd9 := s18'
  clear s17 s18'
  go_wp2_with fail
  refine ((s18.nexts 0 (a := 0) (b := 0) (by decide +kernel)).mono fun e w h => (⟨h.1, h.2.1⟩ : e = .returned (.bool true) ∧ Kr w0 w _ _ _ _ _ _ _)).mono ?_
  rintro e v19 ⟨rfl, s19'⟩
  have s19 : Kr w0 v19 (fun _ => False) x 3 1 80 83 kd9 := s19'
  clear s18 s19'
  go_wp2_with fail
  refine ((s19.nexts 3 (a := 0) (b := 9) (by decide +kernel)).mono fun e w h => (⟨h.1, h.2.1⟩ : e = .returned (.bool true) ∧ Kr w0 w _ _ _ _ _ _ _)).mono ?_
  rintro e v20 ⟨rfl, s20'⟩
  have s20 : Kr w0 v20 (fun _ => False) x 3 1 80 83 kd9 := s20'
  clear s19 s20'
  go_wp2_with fail
  refine ((s20.sizes (a := 5) (b := 1) (by decide +kernel) (by decide +kernel)).mono fun e w h => (⟨h.1, h.2.1⟩ : e = .returned (.bool true) ∧ Kr w0 w _ _ _ _ _ _ _)).mono ?_
  rintro e v21 ⟨rfl, s21'⟩
  have s21 : Kr w0 v21 (fun _ => False) x 3 1 80 83 kd9 := s21'
  clear s20 s21'
  go_wp2_with fail
  refine (s21.adds1 (by decide) (by decide) (by decide) 7 7 rfl (by decide) [[114, 101, 100]] _ 1 rfl rfl (by decide) (er := 2) (by decide +kernel)).mono ?_
  rintro e v22 ⟨rfl, s22'⟩
  have s22 : Kr w0 v22 (fun _ => False) x 3 1 96 99 kd10 := s22'
  clear s21 s22'
  go_wp2_with fail
  refine (s22.adds1 (by decide) (by decide) (by decide) 8 8 rfl (by decide) [[114, 101, 100], [98, 108, 117, 101]] _ 2 rfl rfl (by decide) (er := 2) (by decide +kernel)).mono ?_
  rintro e v23 ⟨rfl, s23'⟩
  have s23 : Kr w0 v23 (fun _ => False) x 3 1 112 115 kd11 := s23'
  clear s22 s23'
  go_wp2_with fail
  refine (s23.drops0 (by decide) (by decide) 1 1 rfl (by decide) (er := 9) (by decide +kernel)).mono ?_
  rintro e v24 ⟨rfl, s24'⟩
  have s24 : Kr w0 v24 (fun _ => False) x 3 1 112 115 kd12 := s24'
  clear s23 s24'
  go_wp2_with fail
  refine (s24.has2 7 7 rfl (by decide) [[112, 105, 110, 107], [114, 101, 100]] [0, 1] _ _ 2 2 rfl rfl rfl rfl (by decide) (by decide) (by decide +kernel) (by decide +kernel) (er := 0) (by decide +kernel)).mono ?_
  rintro e v25 ⟨rfl, s25'⟩
  have s25 : Kr w0 v25 (fun _ => False) x 3 1 112 115 kd12 := s25'
  clear s24 s25'
  go_wp2_with fail
  refine ((s25.rooms (a := 3) (by decide +kernel)).mono fun e w h => (⟨h.1, h.2.1⟩ : e = .returned (.bool true) ∧ Kr w0 w _ _ _ _ _ _ _)).mono ?_
  rintro e v26 ⟨rfl, s26'⟩
  have s26 : Kr w0 v26 (fun _ => False) x 3 1 112 115 kd12 := s26'
  clear s25 s26'
  go_wp2_with fail
  go_ret
  exact ⟨rfl, s26.bel⟩
end Go.Proofs.YtfpkeinknhijaaaGreat
