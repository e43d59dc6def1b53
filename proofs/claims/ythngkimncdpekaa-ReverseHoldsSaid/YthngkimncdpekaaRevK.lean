/- The law's helpers of layer 18, at an index of the law's own. -/
import Derived.Test.YthngkimncdpekaaRevH
import Derived.Test.YthngkimncdpekaaStrE
namespace Go.Proofs.Ythngkimncdpekaa
set_option linter.unusedVariables false
open Go.RowKit Go.Maps Go.Sort

set_option maxHeartbeats 1000000 in
theorem ints_any (u v : Value) (l : List Nat) (w : World) (hu : Reads w u (numsV l)) (hv : Reads w v (numsV l)) :
    Calls Try.prog 49 #[u, v] w fun e w' => e = .returned (.bool true) ∧ Below w.heap.size w w' := by
  obtain ⟨p, cp, rfl, hl, hu⟩ := hu
  obtain ⟨q, cq, rfl, _, hv⟩ := hv
  rw [List.length_map] at hu hv hl ⊢
  obtain ⟨N, hN⟩ : ∃ N, l.length = N := ⟨_, rfl⟩
  rw [hN] at hu hv hl ⊢
  rcases Nat.eq_zero_or_pos N with h0 | h0
  · subst h0
    clear hu hv hN hl
    go_enter Try.func49, Try.ntmps49
    go_wp2_with fail
    go_loopg [5] 0 (fun r i wr => r = 0 ∧ i = .int .i64 0 ∧ w = wr)
    case atStart => exact ⟨rfl, rfl, rfl⟩
    case round =>
      obtain ⟨_, rfl, rfl⟩ := hrel
      go_wp2_with fail
      go_ret
      exact ⟨rfl, Below.refl _ _⟩
  · rcases hu with h | ⟨b1, o1, rfl, hb1, hc1, hx1⟩
    · omega
    rcases hv with h | ⟨b2, o2, rfl, hb2, hc2, hx2⟩
    · omega
    have HN := Lib.hid hN
    have HX1 := Lib.hid hx1
    have HX2 := Lib.hid hx2
    clear hN hx1 hx2
    go_enter Try.func49, Try.ntmps49
    go_wp2_with fail
    go_loopg [5] N (fun r i wr => ∃ k : Nat, k ≤ N ∧ r + k = N ∧ i = .int .i64 k ∧ Below w.heap.size w wr)
    case atStart => exact ⟨0, by omega, by omega, rfl, Below.refl _ _⟩
    case round =>
      obtain ⟨k, hk, hr, rfl, hb⟩ := hrel
      have HR := Lib.hid hr
      have HB := Lib.hid hb
      clear hr
      by_cases hlt : k < N
      · have hg : l[k]? = some (l[k]'(by have := HN.out; omega)) := List.getElem?_eq_getElem _
        obtain ⟨X, hX⟩ : ∃ X, l[k]? = some X := ⟨_, hg⟩
        have hm : (numsV l)[k]? = some (.int .i64 (X : Int)) := by rw [List.getElem?_map, hX]; rfl
        have c1 := (hb.cell (p := ⟨b1, o1 + k, none⟩) hb1).trans (HX1.out k _ hm)
        have c2 := (hb.cell (p := ⟨b2, o2 + k, none⟩) hb2).trans (HX2.out k _ hm)
        clear hb hg hX hm
        go_wp2_with fail
        go_quiet (fail)
        go_wp2_with fail
        go_roundg (gk - 1)
        case measure => have := HR.out; omega
        case rel => exact ⟨k + 1, by omega, by have := HR.out; omega, by go_num, below_drewN HB.out _⟩
      · obtain rfl : k = N := by omega
        clear hb
        go_wp2_with fail
        go_ret
        exact ⟨rfl, HB.out⟩
set_option maxHeartbeats 1000000 in
theorem ids_any (u v : Value) (l : List Nat) (w : World) (hu : Reads w u (idsV l)) (hv : Reads w v (idsV l)) :
    Calls Try.prog 53 #[u, v] w fun e w' => e = .returned (.bool true) ∧ Below w.heap.size w w' := by
  obtain ⟨p, cp, rfl, hl, hu⟩ := hu
  obtain ⟨q, cq, rfl, _, hv⟩ := hv
  rw [List.length_map] at hu hv hl ⊢
  obtain ⟨N, hN⟩ : ∃ N, l.length = N := ⟨_, rfl⟩
  rw [hN] at hu hv hl ⊢
  rcases Nat.eq_zero_or_pos N with h0 | h0
  · subst h0
    clear hu hv hN hl
    go_enter Try.func53, Try.ntmps53
    go_wp2_with fail
    go_loopg [5] 0 (fun r i wr => r = 0 ∧ i = .int .i64 0 ∧ w = wr)
    case atStart => exact ⟨rfl, rfl, rfl⟩
    case round =>
      obtain ⟨_, rfl, rfl⟩ := hrel
      go_wp2_with fail
      go_ret
      exact ⟨rfl, Below.refl _ _⟩
  · rcases hu with h | ⟨b1, o1, rfl, hb1, hc1, hx1⟩
    · omega
    rcases hv with h | ⟨b2, o2, rfl, hb2, hc2, hx2⟩
    · omega
    have HN := Lib.hid hN
    have HX1 := Lib.hid hx1
    have HX2 := Lib.hid hx2
    clear hN hx1 hx2
    go_enter Try.func53, Try.ntmps53
    go_wp2_with fail
    go_loopg [5] N (fun r i wr => ∃ k : Nat, k ≤ N ∧ r + k = N ∧ i = .int .i64 k ∧ Below w.heap.size w wr)
    case atStart => exact ⟨0, by omega, by omega, rfl, Below.refl _ _⟩
    case round =>
      obtain ⟨k, hk, hr, rfl, hb⟩ := hrel
      have HR := Lib.hid hr
      have HB := Lib.hid hb
      clear hr
      by_cases hlt : k < N
      · have hg : l[k]? = some (l[k]'(by have := HN.out; omega)) := List.getElem?_eq_getElem _
        obtain ⟨X, hX⟩ : ∃ X, l[k]? = some X := ⟨_, hg⟩
        have hm : (idsV l)[k]? = some (.int .u64 (X : Int)) := by rw [List.getElem?_map, hX]; rfl
        have c1 := (hb.cell (p := ⟨b1, o1 + k, none⟩) hb1).trans (HX1.out k _ hm)
        have c2 := (hb.cell (p := ⟨b2, o2 + k, none⟩) hb2).trans (HX2.out k _ hm)
        clear hb hg hX hm
        go_wp2_with fail
        go_quiet (fail)
        go_wp2_with fail
        go_roundg (gk - 1)
        case measure => have := HR.out; omega
        case rel => exact ⟨k + 1, by omega, by have := HR.out; omega, by go_num, below_drewN HB.out _⟩
      · obtain rfl : k = N := by omega
        clear hb
        go_wp2_with fail
        go_ret
        exact ⟨rfl, HB.out⟩

theorem Reads.own_ {w : World} {B : Nat} {t : TypeId} {v : Value} {xs : List Value} {n : Nat} (h : w.ownsRow B t 1 v n xs) (hn : n = xs.length) (hl : xs.length ≤ 140737488355328) : Reads w v xs := by
  subst hn
  exact Reads.of_own h hl
/-- An index of the law's own, and what else is to be kept. -/
def Kr (V w : World) (S : Nat → Prop) (x : Nat) (most seed R : Int) (n : Nat) (d : Dx) : Prop :=
  ∃ O Rd, Ri w x most seed R n O Rd d ∧ (∀ g, O g ∨ Rd g → V.heap.size ≤ g ∧ ¬ S g) ∧ (∀ g, S g → g < w.heap.size) ∧ Below V.heap.size V w
section
variable {V w w' : World} {S : Nat → Prop} {x : Nat} {most seed R : Int} {n : Nat} {d : Dx}
theorem Ri.only {O Rd S : Nat → Prop} (h : Ri w x most seed R n O Rd d) (ho : Only S w w') (hn : ∀ g, O g ∨ Rd g → ¬ S g) : Ri w' x most seed R n O Rd d := by
  obtain ⟨tb, lb, sb, own, lm, sm, l0, h1, h2⟩ := h
  exact ⟨tb, lb, sb, own, lm, sm, l0, h1.only ho (fun g hg => hn g (hg.imp (fun h => (h2 g).2 h) (fun h => h))), h2⟩
theorem Ri.below {O Rd : Nat → Prop} (h : Ri w x most seed R n O Rd d) (hb : Below w.heap.size w w') : Ri w' x most seed R n O Rd d := h.only (Only.of_below hb (fun _ => False)) (fun _ _ h => h)
theorem Ri.lt {O Rd : Nat → Prop} (h : Ri w x most seed R n O Rd d) {g : Nat} (hg : O g ∨ Rd g) : g < w.heap.size := by
  obtain ⟨tb, lb, sb, own, lm, sm, l0, h1, h2⟩ := h
  rcases hg with hg | hg
  · obtain ⟨k, hk⟩ := Option.ne_none_iff_exists'.1 ((h2 g).1 hg)
    exact h1.olt g k hk
  · exact (h1.rd g hg).2
theorem Ri.iw {O Rd : Nat → Prop} (h : Ri w x most seed R n O Rd d) : Iw most R d ∧ d.sl.length ≤ n ∧ d.all.length ≤ n ∧ 1 ≤ most ∧ most ≤ 65536 ∧ (∀ e ∈ d.all, e.id ≤ 18446744073709551615) := by
  obtain ⟨tb, lb, sb, own, lm, sm, l0, h1, h2⟩ := h
  exact ⟨h1.iw, h1.ln.1, h1.ln.2, h1.ms.1, h1.ms.2, h1.lb64⟩
theorem Ri.mono {O Rd : Nat → Prop} (h : Ri w x most seed R n O Rd d) {R' : Int} {n' : Nat} (hR : R ≤ R') (hn : n ≤ n') : Ri w x most seed R' n' O Rd d := by
  obtain ⟨tb, lb, sb, own, lm, sm, l0, h1, h2⟩ := h
  have h3 : Ry w x tb lb sb most seed R' n own Rd lm sm l0 d := ⟨h1.bk, h1.tab, h1.nq, h1.wf.mono hR, h1.lv, h1.sv, h1.ox, h1.ol, h1.os, h1.olt, h1.rd, h1.iw.mono hR, h1.ln, h1.ms, h1.lb64⟩
  exact ⟨tb, lb, sb, own, lm, sm, l0, h3.mono hn, h2⟩
theorem Kr.bel (k : Kr V w S x most seed R n d) : Below V.heap.size V w := by
  obtain ⟨O, Rd, h1, h2, h3, h4⟩ := k
  exact h4
theorem Kr.facts (k : Kr V w S x most seed R n d) : Iw most R d ∧ d.sl.length ≤ n ∧ d.all.length ≤ n ∧ 1 ≤ most ∧ most ≤ 65536 ∧ (∀ e ∈ d.all, e.id ≤ 18446744073709551615) := by
  obtain ⟨O, Rd, h1, h2, h3, h4⟩ := k
  exact h1.iw
theorem Kr.mono (k : Kr V w S x most seed R n d) {R' : Int} {n' : Nat} (hR : R ≤ R') (hn : n ≤ n') : Kr V w S x most seed R' n' d := by
  obtain ⟨O, Rd, h1, h2, h3, h4⟩ := k
  exact ⟨O, Rd, h1.mono hR hn, h2, h3, h4⟩
theorem Kr.keep (k : Kr V w S x most seed R n d) (hb : Below w.heap.size w w') {S' : Nat → Prop} (hS : ∀ g, S' g → S g ∨ (w.heap.size ≤ g ∧ g < w'.heap.size)) : Kr V w' S' x most seed R n d := by
  obtain ⟨O, Rd, h1, h2, h3, h4⟩ := k
  refine ⟨O, Rd, h1.below hb, fun g hg => ⟨(h2 g hg).1, fun hs => ?_⟩, fun g hg => ?_, h4.trans (hb.mono h4.size)⟩
  · rcases hS g hs with h | h
    · exact (h2 g hg).2 h
    · have := h1.lt hg; omega
  · rcases hS g hg with h | h
    · have := h3 g h; have := hb.size; omega
    · exact h.2
theorem Kr.quiet (k : Kr V w S x most seed R n d) (hb : Below w.heap.size w w') : Kr V w' S x most seed R n d := k.keep hb (fun _ h => .inl h)
/-- Blocks that are kept may turn. -/
theorem Kr.other (k : Kr V w S x most seed R n d) (ho : Only S w w') (hV : ∀ g, S g → V.heap.size ≤ g) : Kr V w' S x most seed R n d := by
  obtain ⟨O, Rd, h1, h2, h3, h4⟩ := k
  exact ⟨O, Rd, h1.only ho (fun g hg => (h2 g hg).2), h2, fun g hg => Nat.lt_of_lt_of_le (h3 g hg) ho.size, h4.trans (ho.below (B := V.heap.size) hV h4.size)⟩
/-- A call on the index: what is kept has not turned. -/
theorem Kr.turn {O Rd O' Rd' : Nat → Prop} {R' : Int} {n' : Nat} {d' : Dx} (h1 : Ri w x most seed R n O Rd d) (h2 : ∀ g, O g ∨ Rd g → V.heap.size ≤ g ∧ ¬ S g) (h3 : ∀ g, S g → g < w.heap.size) (h4 : Below V.heap.size V w)
    (hr : Ri w' x most seed R' n' O' Rd' d') (hg : Goes w O w' O') (hd : ∀ g, Rd' g → Rd g ∨ w.heap.size ≤ g) : Kr V w' S x most seed R' n' d' ∧ Only (fun g => ¬ S g ∧ V.heap.size ≤ g) w w' := by
  refine ⟨⟨O', Rd', hr, fun g hg' => ?_, fun g hs => Nat.lt_of_lt_of_le (h3 g hs) hg.only.size, h4.trans (hg.only.below (fun g h => (h2 g (.inl h)).1) h4.size)⟩, hg.only.more (fun g h => .inl ⟨(h2 g (.inl h)).2, (h2 g (.inl h)).1⟩)⟩
  have hnew : O g ∨ Rd g ∨ w.heap.size ≤ g := by
    rcases hg' with h | h
    · exact (hg.new g h).imp (fun h => h) .inr
    · exact .inr (hd g h)
  rcases hnew with h | h | h
  · exact h2 g (.inl h)
  · exact h2 g (.inr h)
  · exact ⟨by have := h4.size; omega, fun hs => by have := h3 g hs; omega⟩
/-- What a law's helper leaves: true, the index as it is now, and what is kept. -/
def KrP (V w : World) (S : Nat → Prop) (x : Nat) (most seed R : Int) (n : Nat) (d : Dx) (e : Ending) (w' : World) : Prop := e = .returned (.bool true) ∧ Kr V w' S x most seed R n d ∧ Only (fun g => ¬ S g ∧ V.heap.size ≤ g) w w'
theorem KrP.quiet (k : Kr V w S x most seed R n d) (hb : Below w.heap.size w w') : KrP V w S x most seed R n d (.returned (.bool true)) w' := ⟨rfl, k.quiet hb, Only.of_below hb _⟩
theorem only_reads {v : Value} {xs : List Value} (h : Reads w v xs) (ho : Only (fun g => ¬ S g ∧ V.heap.size ≤ g) w w') (hv : ∀ g, v.ownBlock = some g → S g ∨ g < V.heap.size) : Reads w' v xs := h.only_ ho (fun g hg hs => by
  rcases hv g hg with h1 | h1
  · exact hs.1 h1
  · omega)
set_option maxHeartbeats 1000000 in
theorem Kr.adds (k : Kr V w S x most seed R n d) (hn : n ≤ 10000) (hR0 : 0 ≤ R) (hR : R ≤ 2147483000) (id : Nat) (hid : id ≤ 18446744073709551615) (v : Value) (ts : List (List UInt8)) (hv : Reads w v (ts.map encStr)) (ht : ts.length ≤ 1000) {d' : Dx} {ns : List Nat} {er : Int} (hx : d.add most id ts = (d', ns, er)) (hns : ns.length ≤ 1000)
    (wv : Value) (hw : Reads w wv (numsV ns)) (hwv : ∀ g, wv.ownBlock = some g → S g ∨ g < V.heap.size) :
    Calls Try.prog 32 #[.pointer (some ⟨x, 0, none⟩), .int .u64 (id : Int), v, wv, .int .i64 er] w (KrP V w S x most seed (R + 16) (n + 16) d') := by
  obtain ⟨O, Rd, h1, h2, h3, h4⟩ := k
  have H := rvadd_any h1 hn hR0 hR id hid v ts hv ht
  rw [hx] at H
  have HT := Lib.hid (fun (w1 : World) O' Rd' hr hg hd => Kr.turn (S := S) (w' := w1) (O' := O') (Rd' := Rd') (R' := R + 16) (n' := n + 16) (d' := d') h1 h2 h3 h4 hr hg hd)
  have HW := Lib.hid hw
  have H := Lib.hid H
  clear h1 h2 h3 h4 hv hx hw
  go_enter Try.func32, Try.ntmps32
  go_wp2_with (first
    | (go_at_call 14; refine H.out.mono ?_; rintro e w1 ⟨v1, O', Rd', rfl, hv1, hr, hg, hd, _⟩; obtain ⟨k1, o1⟩ := HT.out w1 O' Rd' hr hg hd)
    | (go_at_call 49; refine (ints_any v1 wv ns w1 (Reads.own_ hv1 (by rw [List.length_map]) (by rw [List.length_map]; omega)) (only_reads HW.out o1 hwv)).mono ?_; rintro e w2 ⟨rfl, b2⟩))
  go_ret
  exact ⟨rfl, k1.quiet b2, o1.trans (Only.of_below b2 (fun _ => False)) (fun _ h => h.elim)⟩
set_option maxHeartbeats 1000000 in
theorem Kr.drops (k : Kr V w S x most seed R n d) (hn : n ≤ 100000) (hR : R ≤ 2147483647) (id : Nat) (hid : id ≤ 18446744073709551615) {d' : Dx} {ns : List Nat} {er : Int} (hx : d.drop id = (d', ns, er)) (hns : ns.length ≤ 1000)
    (wv : Value) (hw : Reads w wv (numsV ns)) (hwv : ∀ g, wv.ownBlock = some g → S g ∨ g < V.heap.size) :
    Calls Try.prog 33 #[.pointer (some ⟨x, 0, none⟩), .int .u64 (id : Int), wv, .int .i64 er] w (KrP V w S x most seed R n d') := by
  obtain ⟨O, Rd, h1, h2, h3, h4⟩ := k
  have H := rvdrop_any h1 hn hR id hid
  rw [hx] at H
  have HT := Lib.hid (fun (w1 : World) O' hr hg => Kr.turn (S := S) (w' := w1) (O' := O') (Rd' := Rd) (R' := R) (n' := n) (d' := d') h1 h2 h3 h4 hr hg (fun _ h => .inl h))
  have HW := Lib.hid hw
  have H := Lib.hid H
  clear h1 h2 h3 h4 hx hw
  go_enter Try.func33, Try.ntmps33
  go_wp2_with (first
    | (go_at_call 16; refine H.out.mono ?_; rintro e w1 ⟨v1, O', rfl, hv1, hr, hg, _⟩; obtain ⟨k1, o1⟩ := HT.out w1 O' hr hg)
    | (go_at_call 49; refine (ints_any v1 wv ns w1 (Reads.own_ hv1 (by rw [List.length_map]) (by rw [List.length_map]; omega)) (only_reads HW.out o1 hwv)).mono ?_; rintro e w2 ⟨rfl, b2⟩))
  go_ret
  exact ⟨rfl, k1.quiet b2, o1.trans (Only.of_below b2 (fun _ => False)) (fun _ h => h.elim)⟩
set_option maxHeartbeats 1000000 in
theorem Kr.cuts (k : Kr V w S x most seed R n d) (hn : n ≤ 100000) (t i : Int) {d' : Dx} {b : Bool} {er : Int} (hx : d.cut t i = (d', b, er)) :
    Calls Try.prog 46 #[.pointer (some ⟨x, 0, none⟩), .int .i64 t, .int .i64 i, .bool b, .int .i64 er] w (KrP V w S x most seed R (n + 1) d') := by
  obtain ⟨O, Rd, h1, h2, h3, h4⟩ := k
  have H := rvcut_any h1 hn t i
  rw [hx] at H
  have HT := Lib.hid (fun (w1 : World) hr hg => Kr.turn (S := S) (w' := w1) (O' := O) (Rd' := Rd) (R' := R) (n' := n + 1) (d' := d') h1 h2 h3 h4 hr ⟨hg, fun _ h => .inl h⟩ (fun _ h => .inl h))
  have H := Lib.hid H
  clear h1 h2 h3 h4 hx
  go_enter Try.func46, Try.ntmps46
  go_wp2_with (go_at_call 34; refine H.out.mono ?_; rintro e w1 ⟨rfl, hr, ho⟩; obtain ⟨k1, o1⟩ := HT.out w1 hr ho)
  go_ret
  exact ⟨by simp, k1, o1⟩
set_option maxHeartbeats 1000000 in
theorem Kr.slots (k : Kr V w S x most seed R n d) (hn : n ≤ 100000) (t : Int) (wv : Value) (hw : Reads w wv (idsV (slotsN d.sl t))) {er : Int} (her : er = if numB t = true then 0 else 2) :
    Calls Try.prog 44 #[.pointer (some ⟨x, 0, none⟩), .int .i64 t, wv, .int .i64 er] w (KrP V w S x most seed R n d) := by
  have HK := Lib.hid (fun w' hb => KrP.quiet (w' := w') k hb)
  obtain ⟨O, Rd, ⟨tb, lb, sb, own, lm, sm, l0, h1, _⟩, h2, h3, h4⟩ := k
  have H := rvslots_any h1 hn t
  have hl : (slotsN d.sl t).length ≤ 100000 := by
    unfold slotsN
    split
    · have := ofX_len d.sl t.toNat; have := h1.ln.1; omega
    · exact Nat.zero_le _
  rw [← her] at H
  generalize slotsN d.sl t = L at *
  have HW := Lib.hid hw
  have H := Lib.hid H
  clear h1 h2 h3 h4 hw her
  go_enter Try.func44, Try.ntmps44
  go_wp2_with (first
    | (go_at_call 52; refine H.out.mono ?_; rintro e w1 ⟨v1, rfl, hv1, b1⟩)
    | (go_at_call 53; refine (ids_any v1 wv L w1 (Reads.own_ hv1 rfl (by rw [List.length_map]; omega)) (HW.out.below b1)).mono ?_; rintro e w2 ⟨rfl, b2⟩))
  go_ret
  exact HK.out _ (b1.trans (b2.mono b1.size))
set_option maxHeartbeats 1000000 in
theorem Kr.nexts (k : Kr V w S x most seed R n d) (t : Int) {a b : Int} (hx : nextI d.sl t = (a, b)) :
    Calls Try.prog 45 #[.pointer (some ⟨x, 0, none⟩), .int .i64 t, .int .i64 a, .int .i64 b] w (KrP V w S x most seed R n d) := by
  have HK := Lib.hid (fun w' hb => KrP.quiet (w' := w') k hb)
  obtain ⟨O, Rd, ⟨tb, lb, sb, own, lm, sm, l0, h1, _⟩, h2, h3, h4⟩ := k
  have H := rvnext_any h1 t
  rw [hx] at H
  have H := Lib.hid H
  clear h1 h2 h3 h4 hx
  go_enter Try.func45, Try.ntmps45
  go_wp2_with (go_at_call 79; refine H.out.mono ?_; rintro e w1 ⟨rfl, b1⟩)
  go_ret
  exact HK.out _ b1
set_option maxHeartbeats 1000000 in
theorem Kr.finds (k : Kr V w S x most seed R n d) (s : ByteArray) (hs : s.size ≤ 140737488355328) {a b : Int} (hx : findM d.nm s.data.toList = (a, b)) :
    Calls Try.prog 42 #[.pointer (some ⟨x, 0, none⟩), .string s, .int .i64 a, .int .i64 b] w (KrP V w S x most seed R n d) := by
  have HK := Lib.hid (fun w' hb => KrP.quiet (w' := w') k hb)
  obtain ⟨O, Rd, ⟨tb, lb, sb, own, lm, sm, l0, h1, _⟩, h2, h3, h4⟩ := k
  have H := rvfinds_any h1 s hs
  rw [hx] at H
  have H := Lib.hid H
  clear h1 h2 h3 h4 hx
  go_enter Try.func42, Try.ntmps42
  go_wp2_with (go_at_call 51; refine H.out.mono ?_; rintro e w1 ⟨rfl, b1⟩)
  go_ret
  exact HK.out _ b1
set_option maxHeartbeats 1000000 in
theorem Kr.has (k : Kr V w S x most seed R n d) (id : Nat) (hid : id ≤ 18446744073709551615) (tv nv : Value) (ht : Reads w tv ((tagsE d.all id).map encStr)) (hn : Reads w nv (numsV (numsE d.all id))) (hl : (tagsE d.all id).length ≤ 1000 ∧ (numsE d.all id).length ≤ 1000) {er : Int} (her : er = errE d.all id) :
    Calls Try.prog 37 #[.pointer (some ⟨x, 0, none⟩), .int .u64 (id : Int), tv, nv, .int .i64 er] w (KrP V w S x most seed R n d) := by
  have HK := Lib.hid (fun w' hb => KrP.quiet (w' := w') k hb)
  obtain ⟨O, Rd, ⟨tb, lb, sb, own, lm, sm, l0, h1, _⟩, h2, h3, h4⟩ := k
  have H := Lib.hid (rvtags_any h1 id hid)
  have H2 := Lib.hid (fun W hb => rvnums_any (h1.below (w' := W) hb) id hid)
  rw [← her] at H H2
  have HT := Lib.hid ht
  have HN := Lib.hid hn
  generalize tagsE d.all id = T at *
  generalize numsE d.all id = L at *
  clear h1 h2 h3 h4 ht hn her
  go_enter Try.func37, Try.ntmps37
  go_wp2_with (first
    | (go_at_call 35; refine H.out.mono ?_; rintro e w1 ⟨v1, rfl, hv1, b1⟩)
    | (go_at_call 36; refine (H2.out _ b1).mono ?_; rintro e w2 ⟨v2, rfl, hv2, b2⟩; have hv1b := ownsRow_below hv1 b2; have b12 := b1.trans (b2.mono b1.size))
    | (go_at_call 39; refine (strings_any v1 tv T w2 (Reads.own_ hv1b rfl (by rw [List.length_map]; omega)) (HT.out.below b12)).mono ?_; rintro e w3 ⟨rfl, b3⟩; have b13 := b12.trans (b3.mono b12.size))
    | (go_at_call 49; refine (ints_any v2 nv L w3 (Reads.own_ (ownsRow_below hv2 b3) rfl (by rw [List.length_map]; omega)) (HN.out.below b13)).mono ?_; rintro e w4 ⟨rfl, b4⟩))
  go_ret
  exact HK.out _ (b13.trans (b4.mono b13.size))
set_option maxHeartbeats 1000000 in
theorem Kr.sizes (k : Kr V w S x most seed R n d) {a b : Int} (ha : a = d.sl.length) (hb : b = wrongX d.all d.sl) :
    Calls Try.prog 47 #[.pointer (some ⟨x, 0, none⟩), .int .i64 a, .int .i64 b] w (KrP V w S x most seed R n d) := by
  have HK := Lib.hid (fun w' hb => KrP.quiet (w' := w') k hb)
  obtain ⟨O, Rd, ⟨tb, lb, sb, own, lm, sm, l0, h1, _⟩, h2, h3, h4⟩ := k
  have H := rvsizes_any h1
  rw [← ha, ← hb] at H
  have H := Lib.hid H
  clear h1 h2 h3 h4 ha hb
  go_enter Try.func47, Try.ntmps47
  go_wp2_with (go_at_call 24; refine H.out.mono ?_; rintro e w1 ⟨rfl, b1⟩)
  go_ret
  exact HK.out _ b1
set_option maxHeartbeats 1000000 in
theorem Kr.rooms (k : Kr V w S x most seed R n d) {a : Int} (ha : a = liveN d.nm) :
    Calls Try.prog 48 #[.pointer (some ⟨x, 0, none⟩), .int .i64 a, .int .i64 most] w (KrP V w S x most seed R n d) := by
  have HK := Lib.hid (fun w' hb => KrP.quiet (w' := w') k hb)
  obtain ⟨O, Rd, ⟨tb, lb, sb, own, lm, sm, l0, h1, _⟩, h2, h3, h4⟩ := k
  have H := rvroom_any h1
  rw [← ha] at H
  have H := Lib.hid H
  clear h1 h2 h3 h4 ha
  go_enter Try.func48, Try.ntmps48
  go_wp2_with (go_at_call 80; refine H.out.mono ?_; rintro e w1 ⟨rfl, b1⟩)
  go_ret
  exact HK.out _ b1
end
end Go.Proofs.Ythngkimncdpekaa
