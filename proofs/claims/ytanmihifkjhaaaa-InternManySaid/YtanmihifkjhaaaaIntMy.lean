/- InternMany. -/
import Derived.Test.YtanmihifkjhaaaaIntPl
import Derived.Test.YtanmihifkjhaaaaName
import Derived.Deep.RegionHeld3
import Derived.Deep.DeepCutAuto
namespace Go.Proofs.Ytanmihifkjhaaaa
set_option linter.unusedVariables false
open Go.RowKit Go.Maps Go.Sort

theorem Pl.step {V w w1 w2 : World} {S : Nat → Prop} {A b : Nat} {most seed R : Int} {p : Option Addr} {cap : Nat} {l : Nms} (h : Pl V w S A b most seed R p cap l) (h1 : Below w.heap.size w w1) (h2 : Below w1.heap.size w1 w2) : Pl V w2 S A b most seed R p cap l := (h.below h1).below h2
theorem Pn.below {V w w' : World} {S : Nat → Prop} {A E b : Nat} {most seed R : Int} {l l' : Nms} {q : Option Addr} {cq : Nat} (h : Pn V w S A E b most seed R l q cq l') (hb : Below w.heap.size w w') : Pn V w' S A E b most seed R l q cq l' := by
  obtain ⟨x, y, hx⟩ := h.bx
  exact ⟨h.k.quiet hb, ⟨x, y, Blk.below hx hb (Blk.lt hx)⟩, Blk.below h.be hb (Blk.lt h.be), ownsRow_below h.rf hb, h.hV, h.ne, h.na⟩
theorem Pl.refAt {V w w' : World} {S : Nat → Prop} {A b : Nat} {most seed R : Int} {p q : Option Addr} {cap cq : Nat} {l l' : Nms} (h : Pl V w S A b most seed R p cap l) (nA : (Value.slice p l.length cap).ownBlock ≠ some A) (r1 : Rf w' 0 q cq l') (r2 : q = p ∨ ∀ g, (Value.slice q 0 0).ownBlock = some g → w.heap.size ≤ g) (r3 : Below w.heap.size w w') :
    Pn V (w'.alloc (.cells #[.int .i64 most, .slice q l'.length cq] 31)) S A w'.heap.size b most seed R l q cq l' := by
  obtain ⟨q2, c2, he, _, h2⟩ := Pl.ref h nA (x := .int .i64 0) (e := 0) ⟨q, cq, rfl, r1, r2, r3⟩
  injection he with he
  injection he with he
  have he := congrArg (fun a => a[0]?) he
  simp at he
  obtain ⟨rfl, rfl⟩ := he
  exact h2
/-- The document's call between the making of the box E and its store. -/
theorem Pl.refIn {V w w0 w6 : World} {S : Nat → Prop} {A b E : Nat} {most seed R : Int} {p q : Option Addr} {cap cq : Nat} {l l' : Nms} {x y : Value} (h : Pl V w S A b most seed R p cap l) (nA : (Value.slice p l.length cap).ownBlock ≠ some A) (hb : Below w.heap.size w w0) (hE : w.heap.size ≤ E) (hE2 : E < w0.heap.size)
    (r1 : Rf w6 0 q cq l') (r2 : q = p ∨ ∀ g, (Value.slice q 0 0).ownBlock = some g → w0.heap.size ≤ g) (r3 : Below w0.heap.size w0 w6) (hz : Blk w6 E 31 #[x, y]) :
    Pn V ((w6.setCell ⟨E, 0, none⟩ (.int .i64 most)).setCell ⟨E, 1, none⟩ (.slice q l'.length cq)) S A E b most seed R l q cq l' := by
  have hA := Blk.lt h.bx
  have hsz := hb.size
  have hb2 : Below w.heap.size w w6 := hb.trans (r3.mono hb.size)
  have hE6 := Blk.lt hz
  have hq : ∀ g, (Value.slice q l'.length cq).ownBlock = some g → (q = p ∧ (Value.slice p l.length cap).ownBlock = some g) ∨ w0.heap.size ≤ g := fun g hg => by
    rcases r2 with h2 | h2
    · subst h2
      refine .inl ⟨rfl, ?_⟩
      cases q with
      | none => cases hg
      | some a => exact hg
    · refine .inr (h2 g ?_)
      cases q with
      | none => cases hg
      | some a => exact hg
  have hlp : ∀ g, (Value.slice p l.length cap).ownBlock = some g → g < w.heap.size := fun g hg => ownsRow_lt h.rf hg
  have nE : (Value.slice q l'.length cq).ownBlock ≠ some E := fun e => by
    rcases hq E e with ⟨_, h1⟩ | h1
    · have := hlp E h1; omega
    · omega
  have k0 : K1 V w6 (fun g => g = A ∨ g = E ∨ (Value.slice q l'.length cq).ownBlock = some g ∨ S g) b most seed R l := h.k.keep hb2 (fun g hg => by
    rcases hg with h1 | h1 | h1 | h1
    · exact .inl (.inl h1)
    · exact .inr ⟨by omega, by omega⟩
    · have hlt := (r1.lt g h1).2
      rcases hq g h1 with ⟨_, h2⟩ | h2
      · exact .inl (.inr (.inl h2))
      · exact .inr ⟨by omega, hlt⟩
    · exact .inl (.inr (.inr h1)))
  have hV := h.k.bel.size
  have be := Blk.set_ (Blk.set_ hz 0 (.int .i64 most)) 1 (.slice q l'.length cq)
  simp only [List.setIfInBounds_toArray, List.set_cons_zero, List.set_cons_succ] at be
  have bA := Blk.below h.bx hb2 hA
  have hAE : A ≠ E := by omega
  refine ⟨(k0.set (.inr (.inl rfl)) (by omega) 0 _).set (.inr (.inl rfl)) (by omega) 1 _, ⟨_, _, Blk.far (p := ⟨E, 1, none⟩) (Blk.far (p := ⟨E, 0, none⟩) bA hAE (.int .i64 most)) hAE _⟩, be, owns_set (owns_set r1 nE 0 _) nE 1 _, h.hV, hAE, fun e => ?_⟩
  rcases hq A e with ⟨_, h1⟩ | h1
  · exact nA h1
  · omega
set_option maxHeartbeats 8000000 in
set_option maxRecDepth 100000 in
theorem many_some (M v : Nat) (hM : M ≤ 400) (hv1 : 1 ≤ v) (hv2 : v ≤ 9) (w : World) :
    Calls Try.prog 4 #[.int .i64 M, .int .u8 v] w fun e w' => e = .returned (.bool true) ∧ Below w.heap.size w w' := by
  go_enter Try.func4, Try.ntmps4
  go_wp2_with fail
  refine (K1.start w w (Below.refl _ _) 400 11 (by decide) (by decide) (by decide) (by decide)).mono ?_
  rintro e w1 ⟨b, rfl, k1, b1⟩
  have K0 := Lib.hid k1
  clear k1 b1
  go_wp2_with fail
  obtain ⟨A, hA⟩ : ∃ A, w1.heap.size = A := ⟨_, rfl⟩
  rw [hA]
  obtain ⟨p0, n0⟩ := Pl.of (A := A) K0.out hA.symm
  have P0 := Lib.hid p0
  have N0 := Lib.hid n0
  clear p0 n0 K0 hA
  generalize w1.alloc (.cells #[.int .i64 400, .slice none 0 0] 31) = W0 at *
  go_loopg [8] M (fun r i wr => ∃ (k : Nat) (l : Nms) (p : Option Addr) (c : Nat), k ≤ M ∧ r + k = M ∧ i = .int .i64 k ∧ Pl w wr (fun _ => False) A b 400 11 k p c l ∧ (Value.slice p l.length c).ownBlock ≠ some A)
  case atStart => exact ⟨0, [], none, 0, by omega, by omega, rfl, P0.out, N0.out⟩
  case round =>
    clear P0 N0
    obtain ⟨k, l, p, c, hk, hr, rfl, hp, hn⟩ := hrel
    have HR := Lib.hid hr
    have P1 := Lib.hid hp
    have N1 := Lib.hid hn
    have e0 := Blk.cell hp.bx 0
    have e1 := Blk.cell hp.bx 1
    simp only [List.getElem?_toArray, List.getElem?_cons_zero, List.getElem?_cons_succ] at e0 e1
    have hlow := hp.low (by decide)
    have hwf := Lib.hid hp.k.wf
    clear hr hp hn
    by_cases hlt : k < M
    · go_wp2_with fail
      go_cut [9, 10, 11] (fun s9 s10 s11 wx => ∃ (E : Nat) (q : Option Addr) (cq : Nat), s9 = .pointer (some ⟨E, 0, none⟩) ∧ s10 = .int .i64 (addM 400 l (nameB k).data.toList).2.1 ∧ s11 = .int .i64 (addM 400 l (nameB k).data.toList).2.2 ∧ Pn w wx (fun _ => False) A E b 400 11 k l q cq (addM 400 l (nameB k).data.toList).1)
      case first =>
        have HN : Hid (∀ W, Calls Try.prog 13 #[.int .i64 k] W fun e w' => e = .returned (.string (nameB k)) ∧ Below W.heap.size W w') := fun W => name_any_ k (by omega) W
        generalize nameB k = S at *
        generalize hAM : addM 400 l S.data.toList = AM at *
        obtain ⟨l', n', e'⟩ := AM
        have HAM := Lib.hid hAM
        clear hAM
        have HAD : Hid (∀ W, Pl w W (fun _ => False) A b 400 11 k p c l → Calls Try.prog 12 #[.agg #[.int .i64 400, .slice p l.length c], .string S] W (RTab W 400 p l' (.int .i64 n') e')) := fun W h => by
          have := radd_any h.rf h.k.wf (by omega) (by omega) S
          rw [HAM.out] at this
          exact this
        have hAw : A < wr.heap.size := Blk.lt P1.out.bx
        have m0 := Blk.cell (Blk.alloc (w := wr.drew) P1.out.bx (.cells #[.int .i64 0, .slice none 0 0] 31)) 0
        have m1 := Blk.cell (Blk.alloc (w := wr.drew) P1.out.bx (.cells #[.int .i64 0, .slice none 0 0] 31)) 1
        simp only [List.getElem?_toArray, List.getElem?_cons_zero, List.getElem?_cons_succ] at m0 m1
        have hA1 : ¬ A = wr.heap.size := by omega
        have hA2 : ¬ wr.heap.size = A := by omega
        go_region_held3 (fun w' => w'.cell? ⟨A, 0, none⟩ = some (.int .i64 400) ∧ w'.cell? ⟨A, 1, none⟩ = some (.slice p l.length c)) (go_keep) (first
          | (go_at_call 13; refine (HN.out _).mono ?_; rintro e w5 ⟨rfl, b5⟩; have P5 := Lib.hid (P1.out.step (by first | exact (Below.refl _ _).drew | exact ((Below.refl _ _).drew).alloc (Nat.le_refl _) _) b5); have hA5 : A < w5.heap.size := Blk.lt P5.out.bx; have hA6 : ¬ A = w5.heap.size := Nat.ne_of_lt hA5; have hA7 : ¬ w5.heap.size = A := (Nat.ne_of_lt hA5).symm; have k0 := Blk.cell P5.out.bx 0; have k1 := Blk.cell P5.out.bx 1; have k2 := Blk.cell (Blk.alloc P5.out.bx (.cells #[.int .i64 0, .slice none 0 0] 31)) 0; have k3 := Blk.cell (Blk.alloc P5.out.bx (.cells #[.int .i64 0, .slice none 0 0] 31)) 1; simp only [List.getElem?_toArray, List.getElem?_cons_zero, List.getElem?_cons_succ] at k0 k1 k2 k3)
          | (go_at_call 12; refine (HAD.out _ (Pl.below P5.out (by first | exact Below.refl _ _ | exact (Below.refl _ _).alloc (Nat.le_refl _) _))).mono ?_; rintro e w6 ⟨q, cq, rfl, r1, r2, r3⟩; have B6 : Blk w6 A 31 #[.int .i64 400, .slice p l.length c] := (by first | exact Blk.below P5.out.bx r3 (Blk.lt P5.out.bx) | exact Blk.below (Blk.alloc P5.out.bx _) r3 (Blk.lt (Blk.alloc P5.out.bx _))); have y0 := Blk.cell B6 0; have y1 := Blk.cell B6 1; simp only [List.getElem?_toArray, List.getElem?_cons_zero, List.getElem?_cons_succ] at y0 y1; have hA8 : ¬ A = w6.heap.size := Nat.ne_of_lt (Blk.lt B6); have hA9 : ¬ w6.heap.size = A := (Nat.ne_of_lt (Blk.lt B6)).symm; first
            | (have BZ : Blk w6 wr.heap.size 31 #[.int .i64 0, .slice none 0 0] := Blk.below (Blk.below (Blk.new wr.drew 31 #[.int .i64 0, .slice none 0 0]) b5 (by simp)) r3 (by have := b5.size; simp at this ⊢; omega); have z0 := Blk.cell BZ 0; have z1 := Blk.cell BZ 1; have z2 := Blk.frozen BZ 0; have z3 := Blk.frozen BZ 1; simp only [List.getElem?_toArray, List.getElem?_cons_zero, List.getElem?_cons_succ] at z0 z1)
            | (have BZ : Blk w6 w5.heap.size 31 #[.int .i64 0, .slice none 0 0] := Blk.below (Blk.new w5 31 #[.int .i64 0, .slice none 0 0]) r3 (by simp); have z0 := Blk.cell BZ 0; have z1 := Blk.cell BZ 1; have z2 := Blk.frozen BZ 0; have z3 := Blk.frozen BZ 1; simp only [List.getElem?_toArray, List.getElem?_cons_zero, List.getElem?_cons_succ] at z0 z1)
            | skip))
        all_goals go_wp2_with fail
        all_goals go_meet
        all_goals (first
          | exact ⟨_, q, cq, rfl, rfl, rfl, Pl.refIn P1.out N1.out (((Below.refl _ _).drew.alloc (Nat.le_refl _) _).trans (b5.mono (by simp))) (Nat.le_refl _) (by have := b5.size; simp at this; omega) r1 r2 r3 BZ⟩
          | exact ⟨_, q, cq, rfl, rfl, rfl, Pl.refIn P5.out N1.out ((Below.refl _ _).alloc (Nat.le_refl _) _) (Nat.le_refl _) (by simp) r1 r2 r3 BZ⟩
          | exact ⟨_, _, _, rfl, rfl, rfl, (Pl.refAt P5.out N1.out r1 r2 r3)⟩)
      case rest =>
        obtain ⟨E, q, cq, rfl, rfl, rfl, pn⟩ := hcut
        have PN := Lib.hid pn
        have HN : Hid (∀ W, Calls Try.prog 13 #[.int .i64 k] W fun e w' => e = .returned (.string (nameB k)) ∧ Below W.heap.size W w') := fun W => name_any_ (k) (by omega) W
        have hS : (nameB k).size ≤ 140737488355328 := by rw [nameB_size]; decide
        clear pn P1 e0 e1
        generalize nameB k = S at *
        go_wp2_with fail
        refine (HN.out _).mono ?_
        rintro e w7 ⟨rfl, b7⟩
        have PN7 := Lib.hid (PN.out.below b7)
        have HC := Lib.hid (PN7.out.k.adds (by decide) (by decide) (by omega) (by omega) S hS)
        clear PN b7 HN
        go_wp2_with fail
        refine HC.out.mono ?_
        rintro e w8 ⟨rfl, k8, o8⟩
        have PN8 := Lib.hid (PN7.out.turn k8 o8)
        obtain ⟨g0, g1, g2, g3, g4, g5⟩ := PN8.out.cells
        obtain ⟨x0, y0, hx⟩ := PN8.out.bx
        have g6 := Blk.cell hx 0
        have g7 := Blk.cell hx 1
        simp only [List.getElem?_toArray, List.getElem?_cons_zero, List.getElem?_cons_succ] at g6 g7
        have hAE := PN8.out.ne
        have hAE2 : ¬ E = A := fun e => hAE e.symm
        obtain ⟨f1, f2⟩ := PN8.out.done
        have F1 := Lib.hid f1
        have F2 := Lib.hid f2
        clear k8 o8 HC PN7 hx g4 g5 PN8 f1 f2
        go_wp2_with fail
        go_roundg (gk - 1)
        case measure => have := HR.out; omega
        case rel => exact ⟨k + 1, _, q, cq, by omega, by have := HR.out; omega, by go_num, F1.out, F2.out⟩
    · obtain rfl : k = M := by omega
      have q0 : IntKind.i64.wrap (v : Int) = v := IntWalk.i64_in _ (by omega)
      clear hlow hwf e0 e1
      go_wp2_with fail
      clear hlt
      go_loopg [12] (k + 9) (fun r i wr => ∃ (j : Int) (l : Nms) (p : Option Addr) (c : Nat), -10 ≤ j ∧ j ≤ k - 1 ∧ (r : Int) = j + 10 ∧ i = .int .i64 j ∧ Pl w wr (fun _ => False) A b 400 11 k p c l ∧ (Value.slice p l.length c).ownBlock ≠ some A)
      case atStart => exact ⟨(k : Int) - 1, l, p, c, by omega, by omega, by omega, by go_num, P1.out, N1.out⟩
      case round =>
        clear P1 N1 HR
        obtain ⟨j, l, p, c, hj1, hj2, hr, rfl, hp, hn⟩ := hrel
        have HR := Lib.hid hr
        have P1 := Lib.hid hp
        have N1 := Lib.hid hn
        have e0 := Blk.cell hp.bx 0
        have e1 := Blk.cell hp.bx 1
        simp only [List.getElem?_toArray, List.getElem?_cons_zero, List.getElem?_cons_succ] at e0 e1
        have hlow := hp.low (by decide)
        have hwf := Lib.hid hp.k.wf
        clear hr hp hn
        by_cases hj : 0 ≤ j
        · have HA := Lib.hid (rrel_any P1.out.rf hwf.out (by omega) (by omega) j)
          go_wp2_with fail
          refine HA.out.mono ?_
          rintro e w2 hr
          obtain ⟨q', cq, rfl, b2, pn⟩ := Pl.ref P1.out N1.out hr
          have PN := Lib.hid pn
          have HC := Lib.hid (pn.k.frees (by decide) (by omega) j)
          clear HA hr pn e0 e1 P1 b2
          go_wp2_with fail
          refine HC.out.mono ?_
          rintro e w3 ⟨rfl, k3, o3⟩
          have PN3 := Lib.hid (PN.out.turn k3 o3)
          obtain ⟨g0, g1, g2, g3, g4, g5⟩ := PN3.out.cells
          obtain ⟨x0, y0, hx⟩ := PN3.out.bx
          have g6 := Blk.cell hx 0
          have g7 := Blk.cell hx 1
          simp only [List.getElem?_toArray, List.getElem?_cons_zero, List.getElem?_cons_succ] at g6 g7
          have hAE := PN3.out.ne
          have hAE2 : ¬ w2.heap.size = A := fun e => hAE e.symm
          obtain ⟨f1, f2⟩ := PN3.out.done
          have F1 := Lib.hid f1
          have F2 := Lib.hid f2
          clear k3 o3 HC PN hx g4 g5 PN3 f1 f2
          go_wp2_with fail
          go_roundg (gk - v)
          case measure => have := HR.out; omega
          case rel => exact ⟨j - v, _, q', cq, by omega, by omega, by have := HR.out; omega, by go_num, F1.out, F2.out⟩
        · have HI := Lib.hid (is_any (by decide) P1.out.k.kt P1.out.rf (fun w' h => rnames_any h (by omega) 400) ⟨#[110, 101, 119]⟩ (by decide) 0)
          go_wp2_with fail
          refine HI.out.mono ?_
          rintro e w6 ⟨rfl, b6⟩
          have P6 := Lib.hid (P1.out.below b6)
          clear HI b6 P1 e0 e1 HR
          go_wp2_with fail
          clear hj
          go_loopg [16] (k + 10) (fun r i wr => ∃ (n : Nat) (l : Nms) (p : Option Addr) (c : Nat), n ≤ k + 9 ∧ r + n = k + 10 ∧ i = .int .i64 n ∧ Pl w wr (fun _ => False) A b 400 11 (k + n : Nat) p c l ∧ (Value.slice p l.length c).ownBlock ≠ some A)
          case atStart => exact ⟨0, l, p, c, by omega, by omega, rfl, P6.out, N1.out⟩
          case round =>
            clear P6 N1 hwf hlow hj1 hj2
            obtain ⟨n, l, p, c, hnk, hr, rfl, hp, hn⟩ := hrel
            have HR := Lib.hid hr
            have P1 := Lib.hid hp
            have N1 := Lib.hid hn
            have e0 := Blk.cell hp.bx 0
            have e1 := Blk.cell hp.bx 1
            simp only [List.getElem?_toArray, List.getElem?_cons_zero, List.getElem?_cons_succ] at e0 e1
            have hlow := hp.low (by decide)
            have hwf := Lib.hid hp.k.wf
            clear hr hp hn
            by_cases hlt : n < k
            · have p1 : IntKind.i64.wrap (1000 + (n : Int)) = 1000 + (n : Int) := IntWalk.i64_in _ (by omega)
              obtain ⟨S, HN, hS⟩ : ∃ (S : ByteArray), Hid (∀ W, Calls Try.prog 13 #[.int .i64 (1000 + (n : Int))] W fun e w' => e = .returned (.string S) ∧ Below W.heap.size W w') ∧ S.size ≤ 140737488355328 := by
                have h := fun W => name_any_ (1000 + n) (by omega) W
                rw [show ((1000 + n : Nat) : Int) = 1000 + (n : Int) by omega] at h
                exact ⟨nameB (1000 + n), h, by rw [nameB_size]; decide⟩
              go_wp2_with fail
              go_cut [17, 18, 19] (fun s17 s18 s19 wx => ∃ (E : Nat) (q : Option Addr) (cq : Nat), s17 = .pointer (some ⟨E, 0, none⟩) ∧ s18 = .int .i64 (addM 400 l (S).data.toList).2.1 ∧ s19 = .int .i64 (addM 400 l (S).data.toList).2.2 ∧ Pn w wx (fun _ => False) A E b 400 11 (k + n : Nat) l q cq (addM 400 l (S).data.toList).1)
              case first =>
                generalize hAM : addM 400 l S.data.toList = AM at *
                obtain ⟨l', n', e'⟩ := AM
                have HAM := Lib.hid hAM
                clear hAM
                have HAD : Hid (∀ W, Pl w W (fun _ => False) A b 400 11 (k + n : Nat) p c l → Calls Try.prog 12 #[.agg #[.int .i64 400, .slice p l.length c], .string S] W (RTab W 400 p l' (.int .i64 n') e')) := fun W h => by
                  have := radd_any h.rf h.k.wf (by omega) (by omega) S
                  rw [HAM.out] at this
                  exact this
                have hAw : A < wr.heap.size := Blk.lt P1.out.bx
                have m0 := Blk.cell (Blk.alloc (w := wr.drew) P1.out.bx (.cells #[.int .i64 0, .slice none 0 0] 31)) 0
                have m1 := Blk.cell (Blk.alloc (w := wr.drew) P1.out.bx (.cells #[.int .i64 0, .slice none 0 0] 31)) 1
                simp only [List.getElem?_toArray, List.getElem?_cons_zero, List.getElem?_cons_succ] at m0 m1
                have hA1 : ¬ A = wr.heap.size := by omega
                have hA2 : ¬ wr.heap.size = A := by omega
                go_region_held3 (fun w' => w'.cell? ⟨A, 0, none⟩ = some (.int .i64 400) ∧ w'.cell? ⟨A, 1, none⟩ = some (.slice p l.length c)) (go_keep) (first
                  | (go_at_call 13; refine (HN.out _).mono ?_; rintro e w5 ⟨rfl, b5⟩; have P5 := Lib.hid (P1.out.step (by first | exact (Below.refl _ _).drew | exact ((Below.refl _ _).drew).alloc (Nat.le_refl _) _) b5); have hA5 : A < w5.heap.size := Blk.lt P5.out.bx; have hA6 : ¬ A = w5.heap.size := Nat.ne_of_lt hA5; have hA7 : ¬ w5.heap.size = A := (Nat.ne_of_lt hA5).symm; have k0 := Blk.cell P5.out.bx 0; have k1 := Blk.cell P5.out.bx 1; have k2 := Blk.cell (Blk.alloc P5.out.bx (.cells #[.int .i64 0, .slice none 0 0] 31)) 0; have k3 := Blk.cell (Blk.alloc P5.out.bx (.cells #[.int .i64 0, .slice none 0 0] 31)) 1; simp only [List.getElem?_toArray, List.getElem?_cons_zero, List.getElem?_cons_succ] at k0 k1 k2 k3)
                  | (go_at_call 12; refine (HAD.out _ (Pl.below P5.out (by first | exact Below.refl _ _ | exact (Below.refl _ _).alloc (Nat.le_refl _) _))).mono ?_; rintro e w6 ⟨q, cq, rfl, r1, r2, r3⟩; have B6 : Blk w6 A 31 #[.int .i64 400, .slice p l.length c] := (by first | exact Blk.below P5.out.bx r3 (Blk.lt P5.out.bx) | exact Blk.below (Blk.alloc P5.out.bx _) r3 (Blk.lt (Blk.alloc P5.out.bx _))); have y0 := Blk.cell B6 0; have y1 := Blk.cell B6 1; simp only [List.getElem?_toArray, List.getElem?_cons_zero, List.getElem?_cons_succ] at y0 y1; have hA8 : ¬ A = w6.heap.size := Nat.ne_of_lt (Blk.lt B6); have hA9 : ¬ w6.heap.size = A := (Nat.ne_of_lt (Blk.lt B6)).symm; first
                    | (have BZ : Blk w6 wr.heap.size 31 #[.int .i64 0, .slice none 0 0] := Blk.below (Blk.below (Blk.new wr.drew 31 #[.int .i64 0, .slice none 0 0]) b5 (by simp)) r3 (by have := b5.size; simp at this ⊢; omega); have z0 := Blk.cell BZ 0; have z1 := Blk.cell BZ 1; have z2 := Blk.frozen BZ 0; have z3 := Blk.frozen BZ 1; simp only [List.getElem?_toArray, List.getElem?_cons_zero, List.getElem?_cons_succ] at z0 z1)
                    | (have BZ : Blk w6 w5.heap.size 31 #[.int .i64 0, .slice none 0 0] := Blk.below (Blk.new w5 31 #[.int .i64 0, .slice none 0 0]) r3 (by simp); have z0 := Blk.cell BZ 0; have z1 := Blk.cell BZ 1; have z2 := Blk.frozen BZ 0; have z3 := Blk.frozen BZ 1; simp only [List.getElem?_toArray, List.getElem?_cons_zero, List.getElem?_cons_succ] at z0 z1)
                    | skip))
                all_goals go_wp2_with fail
                all_goals go_meet
                all_goals (first
                  | exact ⟨_, q, cq, rfl, rfl, rfl, Pl.refIn P1.out N1.out (((Below.refl _ _).drew.alloc (Nat.le_refl _) _).trans (b5.mono (by simp))) (Nat.le_refl _) (by have := b5.size; simp at this; omega) r1 r2 r3 BZ⟩
                  | exact ⟨_, q, cq, rfl, rfl, rfl, Pl.refIn P5.out N1.out ((Below.refl _ _).alloc (Nat.le_refl _) _) (Nat.le_refl _) (by simp) r1 r2 r3 BZ⟩
                  | exact ⟨_, _, _, rfl, rfl, rfl, (Pl.refAt P5.out N1.out r1 r2 r3)⟩)
              case rest =>
                obtain ⟨E, q, cq, rfl, rfl, rfl, pn⟩ := hcut
                have PN := Lib.hid pn
                clear pn P1 e0 e1
                go_wp2_with fail
                refine (HN.out _).mono ?_
                rintro e w7 ⟨rfl, b7⟩
                have PN7 := Lib.hid (PN.out.below b7)
                have HC := Lib.hid (PN7.out.k.adds (by decide) (by decide) (by omega) (by omega) S hS)
                clear PN b7 HN
                go_wp2_with fail
                refine HC.out.mono ?_
                rintro e w8 ⟨rfl, k8, o8⟩
                have PN8 := Lib.hid (PN7.out.turn k8 o8)
                obtain ⟨g0, g1, g2, g3, g4, g5⟩ := PN8.out.cells
                obtain ⟨x0, y0, hx⟩ := PN8.out.bx
                have g6 := Blk.cell hx 0
                have g7 := Blk.cell hx 1
                simp only [List.getElem?_toArray, List.getElem?_cons_zero, List.getElem?_cons_succ] at g6 g7
                have hAE := PN8.out.ne
                have hAE2 : ¬ E = A := fun e => hAE e.symm
                obtain ⟨f1, f2⟩ := PN8.out.done
                have F1 := Lib.hid f1
                have F2 := Lib.hid f2
                clear k8 o8 HC PN7 hx g4 g5 PN8 f1 f2
                go_wp2_with fail
                go_roundg (gk - v)
                case measure => have := HR.out; omega
                case rel => exact ⟨n + v, _, q, cq, by omega, by have := HR.out; omega, by go_num, ⟨F1.out.k.grow (by omega), F1.out.bx, F1.out.rf, F1.out.hV⟩, F2.out⟩
            · have HI := Lib.hid (is_any (by decide) P1.out.k.kt P1.out.rf (fun w' h => rnames_any h (by omega) 400) ⟨#[110, 101, 119]⟩ (by decide) k)
              go_wp2_with fail
              refine HI.out.mono ?_
              rintro e w6 ⟨rfl, b6⟩
              have P6 := Lib.hid (P1.out.below b6)
              clear HI b6 P1 e0 e1 HR
              go_wp2_with fail
              refine (known_any _).mono ?_
              rintro e w7 ⟨rfl, b7⟩
              have P7 := Lib.hid (P6.out.below b7)
              clear b7 P6
              go_wp2_with fail
              go_ret
              exact ⟨rfl, P7.out.k.bel⟩
end Go.Proofs.Ytanmihifkjhaaaa
