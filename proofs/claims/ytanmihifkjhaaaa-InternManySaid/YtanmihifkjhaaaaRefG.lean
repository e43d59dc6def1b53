/- The document's Add and Release, whatever the name and the number; one table of the law's own beside what is to be kept. -/
import Derived.Test.YtanmihifkjhaaaaRefF
import Derived.Test.YtanmihifkjhaaaaIntH
namespace Go.Proofs.Ytanmihifkjhaaaa
set_option linter.unusedVariables false
open Go.RowKit Go.Maps Go.Sort

section
variable {w : World} {B cap : Nat} {p : Option Addr} {l : Nms} {most R : Int} (h : Rf w B p cap l) (hw : Wf most R l) (hl : l.length ≤ 99999)
include h hw hl
theorem radd_any (hR : R < 2147483647) (s : ByteArray) :
    Calls Try.prog 12 #[.agg #[.int .i64 most, .slice p l.length cap], .string s] w (RTab w most p (addM most l s.data.toList).1 (.int .i64 (addM most l s.data.toList).2.1) (addM most l s.data.toList).2.2) := by
  rcases Bool.eq_false_or_eq_true (validB s.data.toList) with hv | hv
  · cases hf : findN l s.data.toList with
    | some k => exact radd_there h (by omega) most s hw.dist hv k hf (by have := (hw.refs k).2; omega)
    | none =>
      by_cases hm : most ≤ liveN l
      · have e : addM most l s.data.toList = (l, 0, 7) := by
          unfold addM
          rw [if_pos hv, hf]
          exact if_pos hm
        rw [e]
        exact radd_full h (by omega) most s hw.dist hv hf hm
      · exact radd_new h hl most s hw.dist hv hf (by omega)
  · have e : addM most l s.data.toList = (l, 0, 2) := by
      unfold addM
      rw [if_neg (by rw [hv]; decide)]
    rw [e]
    exact radd_bad h most s hv
theorem rrel_any (hR : R ≤ 2147483647) (n : Int) :
    Calls Try.prog 15 #[.agg #[.int .i64 most, .slice p l.length cap], .int .i64 n] w (RTab w most p (relM l n).1 (.bool (relM l n).2.1) (relM l n).2.2) := by
  rcases Bool.eq_false_or_eq_true (hasM l n) with hn | hn
  · obtain ⟨k, rfl⟩ : ∃ k : Nat, n = k := ⟨n.toNat, by unfold hasM at hn; simp at hn; omega⟩
    exact rrel_yes h (by omega) most k hn (by have := (hw.refs k).2; omega)
  · have e : relM l n = (l, false, 9) := by
      unfold relM
      rw [if_neg (by rw [hn]; decide)]
    rw [e]
    exact rrel_no h (by omega) most n hn
end
/-- One table of the law's own, and what else is to be kept. -/
def K1 (V w : World) (S : Nat → Prop) (b : Nat) (most seed R : Int) (l : Nms) : Prop :=
  ∃ O, Tab w b O most seed l ∧ (∀ g, O g → V.heap.size ≤ g ∧ ¬ S g) ∧ Wf most R l ∧ (∀ g, S g → g < w.heap.size) ∧ Below V.heap.size V w
section
variable {V w w' : World} {S : Nat → Prop} {b : Nat} {most seed R : Int} {l : Nms}
theorem K1.kt (k : K1 V w S b most seed R l) : Kt V w b most seed R l := by
  obtain ⟨O, h1, h2, h3, h4, h5⟩ := k
  exact ⟨O, h1, fun g hg => (h2 g hg).1, h3, h5⟩
theorem K1.bel (k : K1 V w S b most seed R l) : Below V.heap.size V w := k.kt.bel
theorem K1.wf (k : K1 V w S b most seed R l) : Wf most R l := k.kt.wf
theorem K1.grow (k : K1 V w S b most seed R l) {R' : Int} (hR : R ≤ R') : K1 V w S b most seed R' l := by
  obtain ⟨O, h1, h2, h3, h4, h5⟩ := k
  exact ⟨O, h1, h2, h3.mono hR, h4, h5⟩
theorem K1.keep (k : K1 V w S b most seed R l) (hb : Below w.heap.size w w') {S' : Nat → Prop} (hS : ∀ g, S' g → S g ∨ (w.heap.size ≤ g ∧ g < w'.heap.size)) : K1 V w' S' b most seed R l := by
  obtain ⟨O, h1, h2, h3, h4, h5⟩ := k
  refine ⟨O, h1.below hb, fun g hg => ⟨(h2 g hg).1, fun hs => ?_⟩, h3, fun g hg => ?_, h5.trans (hb.mono h5.size)⟩
  · rcases hS g hs with h | h
    · exact (h2 g hg).2 h
    · have := h1.lt hg
      omega
  · rcases hS g hg with h | h
    · exact Nat.lt_of_lt_of_le (h4 g h) hb.size
    · exact h.2
theorem K1.quiet (k : K1 V w S b most seed R l) (hb : Below w.heap.size w w') : K1 V w' S b most seed R l := k.keep hb (fun _ h => .inl h)
theorem K1.set (k : K1 V w S b most seed R l) {A : Nat} (hA : S A) (hV : V.heap.size ≤ A) (i : Nat) (u : Value) : K1 V (w.setCell ⟨A, i, none⟩ u) S b most seed R l := by
  obtain ⟨O, h1, h2, h3, h4, h5⟩ := k
  refine ⟨O, h1.only (S := fun g => g = A) ((Only.refl (fun g => g = A) w).setCell1 (.inl rfl) i u) (fun g hg e => (h2 g hg).2 (e ▸ hA)), h2, h3, fun g hg => by simpa [World.setCell] using h4 g hg, h5.setCell (p := ⟨A, i, none⟩) hV u⟩
theorem K1.turn {O : Nat → Prop} (h1 : Tab w b O most seed l) (h2 : ∀ g, O g → V.heap.size ≤ g ∧ ¬ S g) (h4 : ∀ g, S g → g < w.heap.size) (h5 : Below V.heap.size V w)
    {l' : Nms} {R' : Int} (hw : Wf most R' l') {O' : Nat → Prop} (t1 : Tab w' b O' most seed l') (t2 : Only O w w') (t3 : ∀ g, O' g → O g ∨ w.heap.size ≤ g) : K1 V w' S b most seed R' l' ∧ Only (fun g => ¬ S g) w w' := by
  refine ⟨⟨O', t1, fun g hg => ?_, hw, fun g hg => Nat.lt_of_lt_of_le (h4 g hg) t2.size, h5.trans (t2.below (fun g hg => (h2 g hg).1) h5.size)⟩, t2.more (fun g hg => .inl (h2 g hg).2)⟩
  rcases t3 g hg with h | h
  · exact h2 g h
  · exact ⟨Nat.le_trans h5.size h, fun hs => by have := h4 g hs; omega⟩
theorem K1.adds (k : K1 V w S b most seed R l) (hm : 1 ≤ most) (hm2 : most ≤ 65536) (hR0 : 0 ≤ R) (hR : R < 2147483647) (s : ByteArray) (hs : s.size ≤ 140737488355328) :
    Calls Try.prog 14 #[.pointer (some ⟨b, 0, none⟩), .string s, .int .i64 (addM most l s.data.toList).2.1, .int .i64 (addM most l s.data.toList).2.2] w fun e w' => e = .returned (.bool true) ∧ K1 V w' S b most seed (R + 1) (addM most l s.data.toList).1 ∧ Only (fun g => ¬ S g) w w' := by
  obtain ⟨O, h1, h2, h3, h4, h5⟩ := k
  refine (ladds_any h1 hm hm2 h3 hR s hs _ _ _ rfl).mono ?_
  rintro e w' ⟨O', rfl, t1, t2, t3⟩
  exact ⟨rfl, K1.turn h1 h2 h4 h5 (h3.add (by omega) s.data.toList) t1 t2 t3⟩
theorem K1.frees (k : K1 V w S b most seed R l) (hm : 1 ≤ most) (hR : R ≤ 2147483647) (n : Int) :
    Calls Try.prog 16 #[.pointer (some ⟨b, 0, none⟩), .int .i64 n, .bool (relM l n).2.1, .int .i64 (relM l n).2.2] w fun e w' => e = .returned (.bool true) ∧ K1 V w' S b most seed R (relM l n).1 ∧ Only (fun g => ¬ S g) w w' := by
  obtain ⟨O, h1, h2, h3, h4, h5⟩ := k
  refine (lfrees_any h1 hm h3 hR n _ _ _ rfl).mono ?_
  rintro e w' ⟨O', rfl, t1, t2, t3⟩
  exact ⟨rfl, K1.turn h1 h2 h4 h5 (h3.rel n) t1 t2 t3⟩
theorem K1.copy (k : K1 V w S b most seed R l) (hm : 1 ≤ most) :
    Calls Try.prog 26 #[.pointer (some ⟨b, 0, none⟩)] w fun e w' => ∃ b', e = .returned (.pointer (some ⟨b', 0, none⟩)) ∧ K2 V w' S b b' most seed seed R l l ∧ Below w.heap.size w w' := by
  obtain ⟨O, h1, h2, h3, h4, h5⟩ := k
  refine (copy_any h1 hm).mono ?_
  rintro e w' ⟨b', O', rfl, t1, t2, t3⟩
  refine ⟨b', rfl, ⟨O, O', h1.below t3, t1, fun g hg hg' => by have := h1.lt hg; have := t2 g hg'; omega, fun g hg => ?_, h3, h3, fun g hg => Nat.lt_of_lt_of_le (h4 g hg) t3.size, h5.trans (t3.mono h5.size)⟩, t3⟩
  rcases hg with hg | hg
  · exact h2 g hg
  · exact ⟨Nat.le_trans h5.size (t2 g hg), fun hs => by have := h4 g hs; have := t2 g hg; omega⟩
theorem K2.one {b2 : Nat} {s2 : Int} {l2 : Nms} (k : K2 V w S b b2 most seed s2 R l l2) : K1 V w S b most seed R l := by
  obtain ⟨O, O2, h1, h2, h3, h4, h5, h5', h6, h7⟩ := k
  exact ⟨O, h1, fun g hg => h4 g (.inl hg), h5, h6, h7⟩
theorem K1.start (V w : World) (hV : Below V.heap.size V w) (most seed : Int) (h1 : 1 ≤ most) (h2 : most ≤ 65536) (s0 : 0 ≤ seed) (s1 : seed ≤ 18446744073709551615) :
    Calls Try.prog 9 #[.int .i64 most, .int .u64 seed] w fun e w' => ∃ b, e = .returned (.tuple #[.pointer (some ⟨b, 0, none⟩), .int .i64 0]) ∧ K1 V w' (fun _ => False) b most seed 0 [] ∧ Below w.heap.size w w' := by
  refine (new_ok most seed h1 h2 s0 s1 w).mono ?_
  rintro e w' ⟨b, O, rfl, t1, t2, t3⟩
  exact ⟨b, rfl, ⟨O, t1, fun g h => ⟨Nat.le_trans hV.size (t2 g h), fun h => h⟩, Wf.nil most 0 (by omega) (Int.le_refl _), fun g h => h.elim, hV.trans (t3.mono hV.size)⟩, t3⟩
end

/-- The law's table; the document's table in a box A of the law; what is to be kept beside these. -/
structure Pl (V w : World) (S : Nat → Prop) (A b : Nat) (most seed R : Int) (p : Option Addr) (cap : Nat) (l : Nms) : Prop where
  k : K1 V w (fun g => g = A ∨ (Value.slice p l.length cap).ownBlock = some g ∨ S g) b most seed R l
  bx : Blk w A 31 #[.int .i64 most, .slice p l.length cap]
  rf : Rf w 0 p cap l
  hV : V.heap.size ≤ A
section
variable {V w w' : World} {S : Nat → Prop} {A b : Nat} {most seed R : Int} {p : Option Addr} {cap : Nat} {l : Nms}
theorem Pl.below (h : Pl V w S A b most seed R p cap l) (hb : Below w.heap.size w w') : Pl V w' S A b most seed R p cap l := ⟨h.k.quiet hb, Blk.below h.bx hb (Blk.lt h.bx), ownsRow_below h.rf hb, h.hV⟩
theorem Pl.keep (h : Pl V w S A b most seed R p cap l) (hb : Below w.heap.size w w') {S' : Nat → Prop} (hS : ∀ g, S' g → S g ∨ (w.heap.size ≤ g ∧ g < w'.heap.size)) : Pl V w' S' A b most seed R p cap l :=
  ⟨h.k.keep hb (fun g hg => by
    rcases hg with h1 | h1 | h1
    · exact .inl (.inl h1)
    · exact .inl (.inr (.inl h1))
    · exact (hS g h1).imp (fun h => .inr (.inr h)) id), Blk.below h.bx hb (Blk.lt h.bx), ownsRow_below h.rf hb, h.hV⟩
theorem Pl.low (h : Pl V w S A b most seed R p cap l) (hm : most ≤ 65536) : l.length ≤ 65536 := by have := h.k.wf.size; omega
/-- After the document's call: its result in a box E of the law, the table still the old one. -/
structure Pn (V w : World) (S : Nat → Prop) (A E b : Nat) (most seed R : Int) (l : Nms) (q : Option Addr) (cq : Nat) (l' : Nms) : Prop where
  k : K1 V w (fun g => g = A ∨ g = E ∨ (Value.slice q l'.length cq).ownBlock = some g ∨ S g) b most seed R l
  bx : ∃ x y, Blk w A 31 #[x, y]
  be : Blk w E 31 #[.int .i64 most, .slice q l'.length cq]
  rf : Rf w 0 q cq l'
  hV : V.heap.size ≤ A
  ne : A ≠ E
  na : (Value.slice q l'.length cq).ownBlock ≠ some A
theorem Pl.ref (h : Pl V w S A b most seed R p cap l) (nA : (Value.slice p l.length cap).ownBlock ≠ some A) {l' : Nms} {x : Value} {e : Int} {en : Ending} (hr : RTab w most p l' x e en w') :
    ∃ q cq, en = .returned (.tuple #[.agg #[.int .i64 most, .slice q l'.length cq], x, .int .i64 e]) ∧ Below w.heap.size w w' ∧ Pn V (w'.alloc (.cells #[.int .i64 most, .slice q l'.length cq] 31)) S A w'.heap.size b most seed R l q cq l' := by
  obtain ⟨q, cq, rfl, r1, r2, r3⟩ := hr
  have hA := Blk.lt h.bx
  have hsz := r3.size
  have hb2 : Below w.heap.size w (w'.alloc (.cells #[.int .i64 most, .slice q l'.length cq] 31)) := r3.alloc hsz _
  refine ⟨q, cq, rfl, r3, ⟨h.k.keep hb2 (fun g hg => ?_), ⟨_, _, Blk.below h.bx hb2 hA⟩, Blk.new _ _ _, ownsRow_below r1 ((Below.refl _ _).alloc (Nat.le_refl _) _), h.hV, by omega, fun e => ?_⟩⟩
  · rcases hg with h1 | h1 | h1 | h1
    · exact .inl (.inl h1)
    · exact .inr ⟨by omega, by simp; omega⟩
    · have hg := (r1.lt g h1).2
      rcases r2 with h2 | h2
      · subst h2
        refine .inl (.inr (.inl ?_))
        cases q with
        | none => cases h1
        | some a => exact h1
      · refine .inr ⟨h2 g ?_, by simp; omega⟩
        cases q with
        | none => cases h1
        | some a => exact h1
    · exact .inl (.inr (.inr h1))
  · rcases r2 with h2 | h2
    · subst h2
      refine nA ?_
      cases q with
      | none => cases e
      | some a => exact e
    · have := h2 A (by
        cases q with
        | none => cases e
        | some a => exact e)
      omega
theorem Pn.cells {E : Nat} {q : Option Addr} {cq : Nat} {l' : Nms} (h : Pn V w S A E b most seed R l q cq l') : w.cell? ⟨E, 0, none⟩ = some (.int .i64 most) ∧ w.cell? ⟨E, 1, none⟩ = some (.slice q l'.length cq) ∧ w.frozen? ⟨A, 0, none⟩ = false ∧ w.frozen? ⟨A, 1, none⟩ = false ∧ (w.cell? ⟨A, 0, none⟩).isSome ∧ (w.cell? ⟨A, 1, none⟩).isSome := by
  obtain ⟨x, y, hx⟩ := h.bx
  refine ⟨Blk.cell h.be 0, Blk.cell h.be 1, Blk.frozen hx 0, Blk.frozen hx 1, ?_, ?_⟩
  · rw [Blk.cell hx 0]; rfl
  · rw [Blk.cell hx 1]; rfl
/-- The table has turned to the document's; the store of the box goes on. -/
theorem Pn.turn {E : Nat} {q : Option Addr} {cq : Nat} {l' : Nms} (h : Pn V w S A E b most seed R l q cq l') {R' : Int} {l2 : Nms}
    (k : K1 V w' (fun g => g = A ∨ g = E ∨ (Value.slice q l'.length cq).ownBlock = some g ∨ S g) b most seed R' l2) (o : Only (fun g => ¬ (g = A ∨ g = E ∨ (Value.slice q l'.length cq).ownBlock = some g ∨ S g)) w w') : Pn V w' S A E b most seed R' l2 q cq l' := by
  obtain ⟨x, y, hx⟩ := h.bx
  exact ⟨k, ⟨x, y, Blk.only hx o (fun hn => hn (.inl rfl))⟩, Blk.only h.be o (fun hn => hn (.inr (.inl rfl))), ownsRow_only h.rf o (fun g hg hn => hn (.inr (.inr (.inl hg)))), h.hV, h.ne, h.na⟩
theorem Pn.done {E : Nat} {q : Option Addr} {cq : Nat} {l' : Nms} (h : Pn V w S A E b most seed R l' q cq l') : Pl V ((w.setCell ⟨A, 0, none⟩ (.int .i64 most)).setCell ⟨A, 1, none⟩ (.slice q l'.length cq)) S A b most seed R q cq l' ∧ (Value.slice q l'.length cq).ownBlock ≠ some A := by
  obtain ⟨x, y, hx⟩ := h.bx
  have hz := Blk.set_ (Blk.set_ hx 0 (.int .i64 most)) 1 (.slice q l'.length cq)
  simp only [List.setIfInBounds_toArray, List.set_cons_zero, List.set_cons_succ] at hz
  refine ⟨⟨((h.k.set (.inl rfl) h.hV 0 (.int .i64 most)).set (.inl rfl) h.hV 1 (.slice q l'.length cq)).keep (Below.refl _ _) (fun g hg => .inl ?_), hz, owns_set (owns_set h.rf h.na 0 _) h.na 1 _, h.hV⟩, h.na⟩
  rcases hg with h1 | h1 | h1
  · exact .inl h1
  · exact .inr (.inr (.inl h1))
  · exact .inr (.inr (.inr h1))
end
end Go.Proofs.Ytanmihifkjhaaaa
