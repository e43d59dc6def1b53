/- StampHolds: two stamps side by side. -/
import Derived.Test.YtckdfnlleaifcaaStmO
namespace Go.Proofs.Ytckdfnlleaifcaa
set_option linter.unusedVariables false
open Go.RowKit Go.Maps Go.Sort

/-- Two stamps of the law's own, apart; S: blocks that stay. -/
structure Dd (V w : World) (S : Nat → Prop) (g1 g2 gr a1 l1 a2 l2 n : Nat) (d1 d2 : List Tg) : Prop where
  both : ∃ O1 O2, St w g1 gr a1 l1 n d1 O1 ∧ St w g2 gr a2 l2 n d2 O2 ∧ (∀ x, O1 x → ¬ O2 x) ∧ (∀ x, O1 x → V.heap.size ≤ x ∧ ¬ S x) ∧ (∀ x, O2 x → V.heap.size ≤ x ∧ ¬ S x)
  bel : Below V.heap.size V w
  low : ∀ x, S x → x < w.heap.size
section
variable {V w w' : World} {S : Nat → Prop} {g1 g2 gr a1 l1 a2 l2 n a1' l1' n' : Nat} {d1 d2 d1' : List Tg}
theorem Dd.swap (h : Dd V w S g1 g2 gr a1 l1 a2 l2 n d1 d2) : Dd V w S g2 g1 gr a2 l2 a1 l1 n d2 d1 := by
  obtain ⟨O1, O2, h1, h2, h3, h4, h5⟩ := h.both
  exact ⟨⟨O2, O1, h2, h1, fun x hx hy => h3 x hy hx, h5, h4⟩, h.bel, h.low⟩
theorem Dd.grow (h : Dd V w S g1 g2 gr a1 l1 a2 l2 n d1 d2) (hn : n ≤ n') : Dd V w S g1 g2 gr a1 l1 a2 l2 n' d1 d2 := by
  obtain ⟨O1, O2, h1, h2, h3, h4, h5⟩ := h.both
  exact ⟨⟨O1, O2, h1.grow hn, h2.grow hn, h3, h4, h5⟩, h.bel, h.low⟩
theorem Dd.below (h : Dd V w S g1 g2 gr a1 l1 a2 l2 n d1 d2) (hb : Below w.heap.size w w') : Dd V w' S g1 g2 gr a1 l1 a2 l2 n d1 d2 := by
  obtain ⟨O1, O2, h1, h2, h3, h4, h5⟩ := h.both
  exact ⟨⟨O1, O2, h1.below hb, h2.below hb, h3, h4, h5⟩, h.bel.trans (hb.mono h.bel.size), fun x hx => Nat.lt_of_lt_of_le (h.low x hx) hb.size⟩
/-- What was made since stays too. -/
theorem Dd.keep {S' : Nat → Prop} (h : Dd V w S g1 g2 gr a1 l1 a2 l2 n d1 d2) (hb : Below w.heap.size w w') (hS : ∀ x, S' x → S x ∨ (w.heap.size ≤ x ∧ x < w'.heap.size)) : Dd V w' S' g1 g2 gr a1 l1 a2 l2 n d1 d2 := by
  obtain ⟨O1, O2, h1, h2, h3, h4, h5⟩ := h.both
  refine ⟨⟨O1, O2, h1.below hb, h2.below hb, h3, fun x hx => ⟨(h4 x hx).1, fun hs => ?_⟩, fun x hx => ⟨(h5 x hx).1, fun hs => ?_⟩⟩, h.bel.trans (hb.mono h.bel.size), fun x hx => ?_⟩
  · rcases hS x hs with k | k
    · exact (h4 x hx).2 k
    · have := h1.lt hx; omega
  · rcases hS x hs with k | k
    · exact (h5 x hx).2 k
    · have := h2.lt hx; omega
  · rcases hS x hx with k | k
    · exact Nat.lt_of_lt_of_le (h.low x k) hb.size
    · exact k.2
theorem Dd.free (h : Dd V w S g1 g2 gr a1 l1 a2 l2 n d1 d2) : Dd V w (fun _ => False) g1 g2 gr a1 l1 a2 l2 n d1 d2 := h.keep (Below.refl _ _) (fun x hx => hx.elim)
theorem Dd.turn (h : Dd V w S g1 g2 gr a1 l1 a2 l2 n d1 d2) {P : Ending → World → Prop} {f : Nat} {args : Array Value} {v : Value} (hn : n ≤ n')
    (hc : ∀ O, St w g1 gr a1 l1 n d1 O → Calls Try.prog f args w fun e w' => e = .returned v ∧ ∃ O', St w' g1 gr a1' l1' n' d1' O' ∧ Goes w O w' O') :
    Calls Try.prog f args w fun e w' => e = .returned v ∧ Dd V w' S g1 g2 gr a1' l1' a2 l2 n' d1' d2 ∧ Only (fun x => ¬ S x) w w' := by
  obtain ⟨O1, O2, h1, h2, h3, h4, h5⟩ := h.both
  refine (hc O1 h1).mono ?_
  rintro e w' ⟨k1, O', k2, k3⟩
  refine ⟨k1, ⟨⟨O', O2, k2, (h2.other k3.only (fun x hx hy => h3 x hy hx)).grow hn, fun x hx hy => ?_, fun x hx => ?_, h5⟩, h.bel.trans (k3.only.below (fun x hx => (h4 x hx).1) h.bel.size), fun x hx => Nat.lt_of_lt_of_le (h.low x hx) k3.only.size⟩, k3.only.more (fun x hx => .inl (h4 x hx).2)⟩
  · rcases k3.new x hx with k | k
    · exact h3 x k hy
    · have := h2.lt hy; omega
  · rcases k3.new x hx with k | k
    · exact h4 x k
    · exact ⟨by have := h.bel.size; omega, fun hs => by have := h.low x hs; omega⟩
theorem Goes.only_ {O : Nat → Prop} (h : Only O w w') : Goes w O w' O := ⟨h, fun x hx => .inl hx⟩
theorem Dd.calls (h : Dd V w S g1 g2 gr a1 l1 a2 l2 n d1 d2) (what t : Int) (hok : callOk what t = true) (hl : l1 < 18446744073709551615) (a : Nat) (ha : a ≤ 18446744073709551615) (hn : n ≤ 100000) :
    Calls Try.prog 13 #[.pointer (some ⟨g1, 0, none⟩), .agg #[.int .i64 what, .int .i64 t, .int .u64 (a : Int)]] w fun e w' => e = .returned (.tuple #[.int .u64 ((l1 + 1 : Nat) : Int), .int .i64 0]) ∧
      Dd V w' S g1 g2 gr (max a1 a) (l1 + 1) a2 l2 (n + 1) (callD what t gr (max a1 a) (l1 + 1) d1) d2 ∧ Only (fun x => ¬ S x) w w' :=
  h.turn (P := fun _ _ => True) (Nat.le_succ n) (fun O hO => calls_ok hO what t hok hl a ha hn)
theorem Dd.callsBad (h : Dd V w S g1 g2 gr a1 l1 a2 l2 n d1 d2) (what t : Int) (hok : callOk what t = false) (a : Nat) :
    Calls Try.prog 13 #[.pointer (some ⟨g1, 0, none⟩), .agg #[.int .i64 what, .int .i64 t, .int .u64 (a : Int)]] w fun e w' => e = .returned (.tuple #[.int .u64 0, .int .i64 2]) ∧ Below w.heap.size w w' := by
  obtain ⟨O1, O2, h1, _⟩ := h.both
  exact calls_bad h1 what t hok a
theorem Dd.other (h : Dd V w S g1 g2 gr a1 l1 a2 l2 n d1 d2) (hl : l1 < 18446744073709551615) (a : Nat) (ha : a ≤ 18446744073709551615) :
    Calls Try.prog 15 #[.pointer (some ⟨g1, 0, none⟩), .int .u64 (a : Int)] w fun e w' => e = .returned (.tuple #[.int .u64 ((l1 + 1 : Nat) : Int), .int .i64 0]) ∧
      Dd V w' S g1 g2 gr (max a1 a) (l1 + 1) a2 l2 n (advD gr (max a1 a) d1) d2 ∧ Only (fun x => ¬ S x) w w' :=
  h.turn (P := fun _ _ => True) (Nat.le_refl n) (fun O hO => (other_ok hO hl a ha).mono (fun e w' k => ⟨k.1, O, k.2.1, Goes.only_ k.2.2⟩))
theorem Dd.adv (h : Dd V w S g1 g2 gr a1 l1 a2 l2 n d1 d2) (a : Nat) (ha : a ≤ 18446744073709551615) :
    Calls Try.prog 16 #[.pointer (some ⟨g1, 0, none⟩), .int .u64 (a : Int)] w fun e w' => e = .returned (.int .i64 0) ∧
      Dd V w' S g1 g2 gr (max a1 a) l1 a2 l2 n (advD gr (max a1 a) d1) d2 ∧ Only (fun x => ¬ S x) w w' :=
  h.turn (P := fun _ _ => True) (Nat.le_refl n) (fun O hO => (advance_any hO a ha).mono (fun e w' k => ⟨k.1, O, k.2.1, Goes.only_ k.2.2⟩))
theorem Dd.forget (h : Dd V w S g1 g2 gr a1 l1 a2 l2 n d1 d2) (t : Nat) (ht : t < 65536) :
    Calls Try.prog 17 #[.pointer (some ⟨g1, 0, none⟩), .int .i64 (t : Int)] w fun e w' => e = .returned (.int .i64 (fgE t d1)) ∧
      Dd V w' S g1 g2 gr a1 l1 a2 l2 n (delT t d1) d2 ∧ Only (fun x => ¬ S x) w w' :=
  h.turn (P := fun _ _ => True) (Nat.le_refl n) (fun O hO => (forget_ok hO t ht).mono (fun e w' k => ⟨k.1, O, k.2.1, Goes.only_ k.2.2⟩))
theorem Dd.forgetBad (h : Dd V w S g1 g2 gr a1 l1 a2 l2 n d1 d2) (t : Int) (ht : tagB t = false) :
    Calls Try.prog 17 #[.pointer (some ⟨g1, 0, none⟩), .int .i64 t] w fun e w' => e = .returned (.int .i64 2) ∧ w = w' := by
  obtain ⟨O1, O2, h1, _⟩ := h.both
  exact forget_bad h1 t ht
def DofP (V w : World) (g1 g2 gr a l n t : Nat) (p : Pg) (d1 d2 : List Tg) (e : Ending) (w' : World) : Prop :=
  ∃ q c, e = .returned (.tuple #[.agg #[.int .i64 (t : Int), .int .u64 (p.hard : Int), .slice q p.soft.length c], .int .i64 0]) ∧ SoftAt w' (.slice q p.soft.length c) p.soft ∧ (∀ z, (Value.slice q p.soft.length c).ownBlock = some z → z < w'.heap.size) ∧
    Dd V w' (fun x => (Value.slice q p.soft.length c).ownBlock = some x) g1 g2 gr a l a l n d1 d2
theorem Dd.of (h : Dd V w (fun _ => False) g1 g2 gr a1 l1 a1 l1 n d1 d2) (t : Nat) (ht : t < 65536) (hn : n ≤ 100000) :
    Calls Try.prog 18 #[.pointer (some ⟨g1, 0, none⟩), .int .i64 (t : Int)] w (DofP V w g1 g2 gr a1 l1 n t (knownP t d1) d1 d2) := by
  obtain ⟨O1, O2, h1, h2, h3, h4, h5⟩ := h.both
  refine (of_ok h1 t ht hn).mono ?_
  rintro e w' ⟨v, B, rfl, ow, hB, k1, k2⟩
  obtain ⟨q, c, rfl⟩ := own_form ow
  have hlt : ∀ z, (Value.slice q (knownP t d1).soft.length c).ownBlock = some z → B ≤ z ∧ z < w'.heap.size := fun z hz => ow.lt z hz
  refine ⟨q, c, rfl, RowAt.of_own ow, fun z hz => (hlt z hz).2, ⟨O1, O2, k1, h2.other k2 (fun x hx hy => h3 x hy hx), h3, fun x hx => ⟨(h4 x hx).1, fun hs => ?_⟩, fun x hx => ⟨(h5 x hx).1, fun hs => ?_⟩⟩, h.bel.trans (k2.below (fun x hx => (h4 x hx).1) h.bel.size), fun x hx => (hlt x hx).2⟩
  · have := hlt x hs; have := h1.lt hx; omega
  · have := hlt x hs; have := h2.lt hx; omega
/-- of, of the other one. -/
theorem Dd.ofL (h : Dd V w S g1 g2 gr a1 l1 a2 l2 n d1 d2) (t : Nat) (ht : t < 65536) (hn : n ≤ 100000) (p : Pg) (hp : knownP t d1 = p) (v : Value) (hv : SoftAt w v p.soft) (hvS : ∀ z, v.ownBlock = some z → S z) :
    Calls Try.prog 19 #[.pointer (some ⟨g1, 0, none⟩), .int .i64 (t : Int), .agg #[.int .i64 (t : Int), .int .u64 (p.hard : Int), v], .int .i64 0] w fun e w' => e = .returned (.bool true) ∧
      Dd V w' S g1 g2 gr a1 l1 a2 l2 n d1 d2 ∧ Only (fun x => ¬ S x) w w' := by
  obtain ⟨O1, O2, h1, h2, h3, h4, h5⟩ := h.both
  refine (of_law h1 t ht hn p hp v hv (fun z hz ho => (h4 z ho).2 (hvS z hz))).mono ?_
  rintro e w' ⟨k1, k2, k3⟩
  exact ⟨k1, ⟨⟨O1, O2, k2, h2.other k3 (fun x hx hy => h3 x hy hx), h3, h4, h5⟩, h.bel.trans (k3.below (fun x hx => (h4 x hx).1) h.bel.size), fun x hx => Nat.lt_of_lt_of_le (h.low x hx) k3.size⟩, k3.more (fun x hx => .inl (h4 x hx).2)⟩
theorem Dd.last (h : Dd V w S g1 g2 gr a1 l1 a2 l2 n d1 d2) : Calls Try.prog 20 #[.pointer (some ⟨g1, 0, none⟩)] w fun e w' => e = .returned (.int .u64 (l1 : Int)) ∧ w = w' := by
  obtain ⟨O1, O2, h1, _⟩ := h.both
  exact last_any h1
theorem Dd.now (h : Dd V w S g1 g2 gr a1 l1 a2 l2 n d1 d2) : Calls Try.prog 23 #[.pointer (some ⟨g1, 0, none⟩)] w fun e w' => e = .returned (.int .u64 (a1 : Int)) ∧ w = w' := by
  obtain ⟨O1, O2, h1, _⟩ := h.both
  exact now_any h1
def DlistP (V w : World) (g1 g2 gr a1 l1 a2 l2 n : Nat) (d1 d2 : List Tg) (e : Ending) (w' : World) : Prop :=
  ∃ q E c, e = .returned (.slice q E.length c) ∧ unE E = d1 ∧ ListAt w' (.slice q E.length c) E ∧ Dd V w' (fun _ => False) g1 g2 gr a1 l1 a2 l2 n d1 d2
theorem Dd.list (h : Dd V w S g1 g2 gr a1 l1 a2 l2 n d1 d2) (hn : n ≤ 100000) :
    Calls Try.prog 21 #[.pointer (some ⟨g1, 0, none⟩)] w (DlistP V w g1 g2 gr a1 l1 a2 l2 n d1 d2) := by
  obtain ⟨O1, O2, h1, h2, h3, h4, h5⟩ := h.both
  obtain ⟨_, _, hl1, hl2⟩ := h1.lok
  refine (list_any h1 hn).mono ?_
  rintro e w' ⟨v, B, E, k1, k2, k3, k4, k5, k6, k7, k8⟩
  obtain ⟨q, c, rfl⟩ := own_form k3
  refine ⟨q, E, c, k1, k2, ⟨RowAt.of_own k3, fun x hx => RowAt.of_own (k4 x hx), ?_, fun x hx => ?_⟩, ⟨O1, O2, k7, h2.other k8 (fun x hx hy => h3 x hy hx), h3, fun x hx => ⟨(h4 x hx).1, id⟩, fun x hx => ⟨(h5 x hx).1, id⟩⟩, h.bel.trans (k8.below (fun x hx => (h4 x hx).1) h.bel.size), fun x hx => hx.elim⟩
  · have := congrArg List.length k2
    unfold unE at this
    rw [List.length_map] at this
    omega
  · exact Nat.le_trans (hl2 x.x (by rw [← k2]; exact List.mem_map.2 ⟨x, hx, rfl⟩)) hn
/-- Nothing that is known is over. -/
theorem Dd.young (h : Dd V w S g1 g2 gr a1 l1 a2 l2 n d1 d2) : (∀ x ∈ d1, ∀ y ∈ x.p.soft, overB gr a1 y.tm = false ∧ y.tm ≤ 18446744073709551615) ∧ n ≤ n := by
  obtain ⟨O1, O2, h1, _⟩ := h.both
  have e1 := h1.adv
  have e2 := h1.lok.1
  have e3 := h1.nb.2.1
  refine ⟨fun x hx y hy => ⟨?_, ?_⟩, Nat.le_refl _⟩
  · have hx2 := hx
    rw [← e1] at hx2
    obtain ⟨z, hz, rfl⟩ := List.mem_map.1 hx2
    exact softK_over y hy
  · exact Nat.le_trans ((e2.p x hx).tm y hy) e3
theorem Dd.start (hV : Below V.heap.size V w) (a : Nat) (h : a ≤ 1099511627776) :
    Calls Try.prog 12 #[.int .u64 (a : Int)] w fun e w' => ∃ g, e = .returned (.tuple #[.pointer (some ⟨g, 0, none⟩), .int .i64 0]) ∧ Ks V w' g a 0 0 0 [] := Ks.start hV a h
theorem Dd.start2 {g gr : Nat} (k : Ks V w g gr 0 0 0 []) (h : gr ≤ 1099511627776) :
    Calls Try.prog 12 #[.int .u64 (gr : Int)] w fun e w' => ∃ g2, e = .returned (.tuple #[.pointer (some ⟨g2, 0, none⟩), .int .i64 0]) ∧ Dd V w' (fun _ => False) g g2 gr 0 0 0 0 0 [] [] := by
  obtain ⟨O1, h1, h2, h3⟩ := k
  refine (new_ok gr h w).mono ?_
  rintro e w' ⟨g2, O2, k1, k2, k3, k4⟩
  refine ⟨g2, k1, ⟨O1, O2, h1.below k4, k2, fun x hx hy => ?_, fun x hx => ⟨h2 x hx, id⟩, fun x hx => ⟨?_, id⟩⟩, h3.trans (k4.mono h3.size), fun x hx => hx.elim⟩
  · have := h1.lt hx; have := k3 x hy; omega
  · have := k3 x hx; have := h3.size; omega
end
/-! ### what the calls make known of a tag -/
section
variable {gr A L t : Nat} {d1 d2 : List Tg}
theorem get_adv_eq (h : getT t d1 = getT t d2) : getT t (advD gr A d1) = getT t (advD gr A d2) := by
  unfold advD
  rw [getT_map (normT gr A) (fun _ => rfl), getT_map (normT gr A) (fun _ => rfl), h]
theorem known_eq (h : getT t d1 = getT t d2) : knownP t d1 = knownP t d2 := by
  unfold knownP
  rw [h]
theorem fgE_eq (h : getT t d1 = getT t d2) : fgE t d1 = fgE t d2 := by
  unfold fgE
  rw [h]
/-- A call for the tag itself. -/
theorem call_same (what : Int) (h : getT t d1 = getT t d2) (u1 : TUp d1) (u2 : TUp d2) : getT t (callD what (t : Int) gr A L d1) = getT t (callD what (t : Int) gr A L d2) := by
  have v1 : TUp (advD gr A d1) := map_up u1 _ (fun _ => rfl)
  have v2 : TUp (advD gr A d2) := map_up u2 _ (fun _ => rfl)
  have e : (t : Int).toNat = t := rfl
  unfold callD
  split
  · unfold hardD
    rw [e, getT_ins_same (⟨t, ⟨L, []⟩⟩ : Tg) v1, getT_ins_same (⟨t, ⟨L, []⟩⟩ : Tg) v2]
  · split
    · unfold softD
      rw [e, known_eq (get_adv_eq (gr := gr) (A := A) h)]
      exact (getT_ins_same (normT gr A ⟨t, _⟩) v1).trans (getT_ins_same (normT gr A ⟨t, _⟩) v2).symm
    · exact get_adv_eq h
/-- A call for another tag. -/
theorem call_other (what : Int) (k : Nat) (hk : k ≠ t) (h : getT t d1 = getT t d2) : getT t (callD what (k : Int) gr A L d1) = getT t (advD gr A d2) := by
  have e : (k : Int).toNat = k := rfl
  rw [← get_adv_eq (gr := gr) (A := A) h]
  unfold callD
  split
  · unfold hardD
    rw [e]
    exact getT_ins_other (x := ⟨k, _⟩) (fun h => hk h.symm) _
  · split
    · unfold softD
      rw [e]
      exact getT_ins_other (x := normT gr A ⟨k, _⟩) (fun h => hk h.symm) _
    · rfl
theorem call_two (k : Int) (h : getT t d1 = getT t d2) : getT t (callD 2 k gr A L d1) = getT t (advD gr A d2) := by
  unfold callD
  rw [if_neg (by decide), if_neg (by decide)]
  exact get_adv_eq h
theorem del_same (h : getT t d1 = getT t d2) : getT t (delT t d1) = getT t (delT t d2) := by
  rw [getT_del_same, getT_del_same]
theorem del_other (k : Nat) (hk : k ≠ t) (h : getT t d1 = getT t d2) : getT t (delT k d1) = getT t d2 := by
  rw [getT_del_other (fun e => hk e.symm), h]
end
theorem calls_flip {P : Program} {f : Nat} {args : Array Value} {w : World} {v : Value} (h : Calls P f args w fun e w' => e = .returned v ∧ w = w') : Calls P f args w fun e w' => e = .returned v ∧ w' = w := h.mono fun _ _ h => ⟨h.1, h.2.symm⟩
theorem Dd.ups {V w : World} {S : Nat → Prop} {g1 g2 gr a1 l1 a2 l2 n : Nat} {d1 d2 : List Tg} (h : Dd V w S g1 g2 gr a1 l1 a2 l2 n d1 d2) : TUp d1 ∧ TUp d2 ∧ gr ≤ 1099511627776 ∧ a1 ≤ 18446744073709551615 := by
  obtain ⟨O1, O2, h1, h2, _⟩ := h.both
  exact ⟨h1.lok.1.up, h2.lok.1.up, h1.nb.1, h1.nb.2.1⟩
end Go.Proofs.Ytckdfnlleaifcaa
