/- known. -/
import Derived.Test.YtckdfnlleaifcaaStmL
namespace Go.Proofs.Ytckdfnlleaifcaa
set_option linter.unusedVariables false
open Go.RowKit Go.Maps Go.Sort

section
variable {V w W : World} {g : Nat}
theorem kn_f1 (h : Ks V w g 10 7 4 4 kd4) : Calls Try.prog 27 #[.pointer (some ⟨g, 0, none⟩), .int .i64 3, .int .u64 0, .int .u64 5, .bool true, .int .i64 0] w fun e w' => e = .returned (.bool true) ∧ Ks V w' g 10 7 4 4 kd4 :=
  h.firstL 3 0 (by decide) (by decide) (5, true) rfl
theorem kn_f2 (h : Ks V w g 10 7 4 4 kd4) : Calls Try.prog 27 #[.pointer (some ⟨g, 0, none⟩), .int .i64 3, .int .u64 1, .int .u64 7, .bool true, .int .i64 0] w fun e w' => e = .returned (.bool true) ∧ Ks V w' g 10 7 4 4 kd4 :=
  h.firstL 3 1 (by decide) (by decide) (7, true) rfl
theorem kn_f3 (h : Ks V w g 10 7 4 4 kd4) : Calls Try.prog 27 #[.pointer (some ⟨g, 0, none⟩), .int .i64 3, .int .u64 4, .int .u64 0, .bool false, .int .i64 0] w fun e w' => e = .returned (.bool true) ∧ Ks V w' g 10 7 4 4 kd4 :=
  h.firstL 3 4 (by decide) (by decide) (0, false) rfl
theorem soft_blk {w : World} {cs : Array Value} {s : List Sft} (hc : cs.toList = softCells s) : SoftAt (w.alloc (.cells cs 52)) (.slice (some ⟨w.heap.size, 0, none⟩) s.length s.length) s := by
  have hb := Blk.new w 52 cs
  refine ⟨_, s.length, rfl, softCells_len s, Nat.le_refl _, .inr ⟨w.heap.size, 0, rfl, hb.lt, fun j u hj => ?_⟩⟩
  rw [Nat.zero_add, hb.cell j, ← Array.getElem?_toList, hc]
  exact hj
theorem kn_o1 (h : Ks V w g 10 7 4 4 kd4) : Calls Try.prog 19 #[.pointer (some ⟨g, 0, none⟩), .int .i64 3, .agg #[.int .i64 3, .int .u64 0, .slice (some ⟨w.heap.size, 0, none⟩) 2 2], .int .i64 0] (w.alloc (.cells #[.int .u64 1, .int .u64 5, .int .u64 4, .int .u64 7] 52)) fun e w' => e = .returned (.bool true) ∧ Ks V w' g 10 7 4 4 kd4 :=
  h.ofL ((Below.refl _ _).alloc (Nat.le_refl _) _) 3 (by decide) (by decide) ⟨0, [⟨1, 5⟩, ⟨4, 7⟩]⟩ rfl _ (soft_blk (s := [⟨1, 5⟩, ⟨4, 7⟩]) rfl) (fun z hz => by cases hz; exact Nat.le_refl _)
theorem kn_a (h : Ks V w g 10 7 4 4 kd4) : Calls Try.prog 16 #[.pointer (some ⟨g, 0, none⟩), .int .u64 15] w fun e w' => e = .returned (.int .i64 0) ∧ Ks V w' g 10 15 4 4 kd5 :=
  h.adv 15 (by decide)
theorem kn_o2 (h : Ks V w g 10 15 4 4 kd5) : Calls Try.prog 19 #[.pointer (some ⟨g, 0, none⟩), .int .i64 3, .agg #[.int .i64 3, .int .u64 1, .slice (some ⟨w.heap.size, 0, none⟩) 1 1], .int .i64 0] (w.alloc (.cells #[.int .u64 4, .int .u64 7] 52)) fun e w' => e = .returned (.bool true) ∧ Ks V w' g 10 15 4 4 kd5 :=
  h.ofL ((Below.refl _ _).alloc (Nat.le_refl _) _) 3 (by decide) (by decide) ⟨1, [⟨4, 7⟩]⟩ rfl _ (soft_blk (s := [⟨4, 7⟩]) rfl) (fun z hz => by cases hz; exact Nat.le_refl _)
theorem kn_t (h : Ks V w g 10 15 4 4 kd5) : Calls Try.prog 15 #[.pointer (some ⟨g, 0, none⟩), .int .u64 6] w fun e w' => e = .returned (.tuple #[.int .u64 5, .int .i64 0]) ∧ Ks V w' g 10 15 5 4 kd5 :=
  h.other 6 (by decide) (by decide)
theorem kn_h (h : Ks V w g 10 15 5 4 kd5) : Calls Try.prog 25 #[.pointer (some ⟨g, 0, none⟩), .int .i64 3, .int .u64 16] w fun e w' => e = .returned (.tuple #[.int .u64 6, .int .i64 0]) ∧ Ks V w' g 10 16 6 5 kd6 :=
  h.hard 3 16 (by decide) (by decide) (by decide) (by decide)
/-- The list that known holds List against. -/
def kE6 : List Ev := [⟨⟨3, ⟨6, []⟩⟩, .slice none 0 0⟩, ⟨⟨4, ⟨3, []⟩⟩, .slice none 0 0⟩]
theorem kn_s (h : Ks V w g 10 16 6 5 kd6) (v : Value) (E : List Ev) (hE : unE E = kd6) (hl : ListAt w v E) : Calls Try.prog 34 #[v, .slice (some ⟨w.heap.size, 0, none⟩) 2 2] (w.alloc (.cells #[.int .i64 3, .int .u64 6, .slice none 0 0, .int .i64 4, .int .u64 3, .slice none 0 0] 43)) fun e w' => e = .returned (.bool true) ∧ Ks V w' g 10 16 6 5 kd6 := by
  have hb : Below w.heap.size w (w.alloc (.cells #[.int .i64 3, .int .u64 6, .slice none 0 0, .int .i64 4, .int .u64 3, .slice none 0 0] 43)) := (Below.refl _ _).alloc (Nat.le_refl _) _
  have hblk := Blk.new w 43 #[.int .i64 3, .int .u64 6, .slice none 0 0, .int .i64 4, .int .u64 3, .slice none 0 0]
  have hl2 : ListAt (w.alloc (.cells #[.int .i64 3, .int .u64 6, .slice none 0 0, .int .i64 4, .int .u64 3, .slice none 0 0] 43)) (.slice (some ⟨w.heap.size, 0, none⟩) 2 2) kE6 := by
    refine ⟨⟨_, 2, rfl, rfl, Nat.le_refl _, .inr ⟨w.heap.size, 0, rfl, hblk.lt, fun j u hj => ?_⟩⟩, fun e he => ?_, by decide, fun e he => ?_⟩
    · rw [Nat.zero_add, hblk.cell j, ← Array.getElem?_toList]
      exact hj
    · unfold kE6 at he
      simp only [List.mem_cons, List.not_mem_nil, or_false] at he
      rcases he with rfl | rfl <;> exact RowAt.nil _ _
    · unfold kE6 at he
      simp only [List.mem_cons, List.not_mem_nil, or_false] at he
      rcases he with rfl | rfl <;> exact Nat.zero_le _
  refine (sameAll_any (hl.below hb) hl2 (by rw [hE]; rfl)).mono ?_
  rintro e w' ⟨h1, h2⟩
  exact ⟨h1, (h.quiet hb).quiet h2⟩
theorem kn_g1 (h : Ks V w g 10 16 6 5 kd6) : Calls Try.prog 17 #[.pointer (some ⟨g, 0, none⟩), .int .i64 4] w fun e w' => e = .returned (.int .i64 0) ∧ Ks V w' g 10 16 6 5 kd7 :=
  h.forget 4 (by decide)
theorem kn_g2 (h : Ks V w g 10 16 6 5 kd7) : Calls Try.prog 17 #[.pointer (some ⟨g, 0, none⟩), .int .i64 4] w fun e w' => e = .returned (.int .i64 9) ∧ Ks V w' g 10 16 6 5 kd7 :=
  h.forget 4 (by decide)
theorem kn_o3 (h : Ks V w g 10 16 6 5 kd7) : Calls Try.prog 19 #[.pointer (some ⟨g, 0, none⟩), .int .i64 9, .agg #[.int .i64 9, .int .u64 0, .slice none 0 0], .int .i64 0] w fun e w' => e = .returned (.bool true) ∧ Ks V w' g 10 16 6 5 kd7 :=
  h.ofL (Below.refl _ _) 9 (by decide) (by decide) ⟨0, []⟩ rfl _ (RowAt.nil _ _) (fun z hz => by cases hz)
theorem kn_a2 (h : Ks V w g 10 16 6 5 kd7) : Calls Try.prog 16 #[.pointer (some ⟨g, 0, none⟩), .int .u64 3] w fun e w' => e = .returned (.int .i64 0) ∧ Ks V w' g 10 16 6 5 kd7 :=
  h.adv 3 (by decide)
theorem kn_b (h : Ks V w g 10 16 6 5 kd7) : Calls Try.prog 25 #[.pointer (some ⟨g, 0, none⟩), .int .i64 65536, .int .u64 20] w fun e w' => e = .returned (.tuple #[.int .u64 0, .int .i64 2]) ∧ w = w' :=
  h.hardBad 65536 rfl 20
end
set_option maxHeartbeats 8000000 in
set_option maxRecDepth 100000 in
theorem known_any (w : World) : Calls Try.prog 11 #[] w fun e w' => e = .returned (.bool true) ∧ Below w.heap.size w w' := by
  go_enter Try.func11, Try.ntmps11
  go_wp2_with fail
  refine (Ks.start (V := w) (Below.refl _ _) 10 (by decide)).mono ?_
  rintro e w1 ⟨g, rfl, h1⟩
  have H1 := Lib.hid h1; clear h1
  go_wp2_with fail
  refine (kn_1 H1.out).mono ?_
  rintro e w2 ⟨rfl, h2⟩
  have H2 := Lib.hid h2; clear h2 H1
  go_wp2_with fail
  refine (kn_2 H2.out).mono ?_
  rintro e w3 ⟨rfl, h3⟩
  have H3 := Lib.hid h3; clear h3 H2
  go_wp2_with fail
  refine (kn_3 H3.out).mono ?_
  rintro e w4 ⟨rfl, h4⟩
  have H4 := Lib.hid h4; clear h4 H3
  go_wp2_with fail
  refine (kn_4 H4.out).mono ?_
  rintro e w5 ⟨rfl, h5⟩
  have H5 := Lib.hid h5; clear h5 H4
  go_wp2_with (go_at_call 14; refine (gives_same _ _ _).mono ?_; rintro e w' ⟨rfl, rfl⟩)
  refine (kn_f1 H5.out).mono ?_
  rintro e w6 ⟨rfl, h6⟩
  have H6 := Lib.hid h6; clear h6 H5
  go_wp2_with fail
  refine (kn_f2 H6.out).mono ?_
  rintro e w7 ⟨rfl, h7⟩
  have H7 := Lib.hid h7; clear h7 H6
  go_wp2_with fail
  refine (kn_f3 H7.out).mono ?_
  rintro e w8 ⟨rfl, h8⟩
  have H8 := Lib.hid h8; clear h8 H7
  go_wp2_with fail
  refine (kn_o1 H8.out).mono ?_
  rintro e w9 ⟨rfl, h9⟩
  have H9 := Lib.hid h9; clear h9 H8
  go_wp2_with fail
  refine (kn_a H9.out).mono ?_
  rintro e w10 ⟨rfl, h10⟩
  have H10 := Lib.hid h10; clear h10 H9
  go_wp2_with fail
  refine (kn_o2 H10.out).mono ?_
  rintro e w11 ⟨rfl, h11⟩
  have H11 := Lib.hid h11; clear h11 H10
  go_wp2_with fail
  refine (kn_t H11.out).mono ?_
  rintro e w12 ⟨rfl, h12⟩
  have H12 := Lib.hid h12; clear h12 H11
  go_wp2_with (first
    | (go_at_call 14; refine (gives_same _ _ _).mono ?_; rintro e w' ⟨rfl, rfl⟩)
    | (go_at_call 23; refine (Ks.nowL H12.out).mono ?_; rintro e w' ⟨rfl, rfl⟩)
    | (go_at_call 20; refine (Ks.lastL H12.out).mono ?_; rintro e w' ⟨rfl, rfl⟩))
  refine (kn_h H12.out).mono ?_
  rintro e w13 ⟨rfl, h13⟩
  have H13 := Lib.hid h13; clear h13 H12
  go_wp2_with (go_at_call 14; refine (gives_same _ _ _).mono ?_; rintro e w' ⟨rfl, rfl⟩)
  refine (Ks.list H13.out (by decide)).mono ?_
  rintro e w14 ⟨v14, E14, rfl, hE14, l14, h14⟩
  have H14 := Lib.hid h14
  have HE := Lib.hid hE14
  have HL := Lib.hid l14
  clear h14 hE14 l14 H13
  go_wp2_with fail
  refine (kn_s H14.out v14 E14 HE.out HL.out).mono ?_
  rintro e w15 ⟨rfl, h15⟩
  have H15 := Lib.hid h15; clear h15 H14 HE HL
  go_wp2_with fail
  refine (kn_g1 H15.out).mono ?_
  rintro e w16 ⟨rfl, h16⟩
  have H16 := Lib.hid h16; clear h16 H15
  go_wp2_with fail
  refine (kn_g2 H16.out).mono ?_
  rintro e w17 ⟨rfl, h17⟩
  have H17 := Lib.hid h17; clear h17 H16
  go_wp2_with fail
  refine (kn_o3 H17.out).mono ?_
  rintro e w18 ⟨rfl, h18⟩
  have H18 := Lib.hid h18; clear h18 H17
  go_wp2_with fail
  refine (kn_a2 H18.out).mono ?_
  rintro e w19 ⟨rfl, h19⟩
  have H19 := Lib.hid h19; clear h19 H18
  go_wp2_with fail
  refine (kn_b H19.out).mono ?_
  rintro e w20 ⟨rfl, rfl⟩
  go_wp2_with fail
  refine (new_bad 1099511627777 (by decide) _).mono ?_
  rintro e w21 ⟨rfl, rfl⟩
  go_wp2_with (first
    | (go_at_call 14; refine (gives_same _ _ _).mono ?_; rintro e w' ⟨rfl, rfl⟩)
    | (go_at_call 23; refine (Ks.nowL H19.out).mono ?_; rintro e w' ⟨rfl, rfl⟩))
  go_ret
  exact ⟨rfl, H19.out.bel⟩
end Go.Proofs.Ytckdfnlleaifcaa
