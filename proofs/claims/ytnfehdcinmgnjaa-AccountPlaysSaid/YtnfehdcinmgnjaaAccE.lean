/- The chapter's examples (known) of account answer true. -/
import Derived.Test.YtnfehdcinmgnjaaAccD
namespace Go.Proofs.Ytnfehdcinmgnjaa
set_option linter.unusedVariables false
open Go.RowKit Go.Maps Go.Sort

/-- Where a walk stands that holds one account: what was there before, the account's block, and what it holds. -/
structure Sc (w0 w : World) (b : Nat) (A : Ac) : Prop where
  bel : Below w0.heap.size w0 w
  acc : AccAt w b A
  ok : AcOk A
  ge : w0.heap.size ≤ b
section
variable {w0 w w' : World} {b : Nat} {A A' : Ac}
theorem Sc.op (s : Sc w0 w b A) (ho : AccAt w' b A') (hg : w.grownBy w' (some b)) (hk : AcOk A') : Sc w0 w' b A' :=
  ⟨Below.only s.bel hg s.bel.size s.ge, ho, hk, s.ge⟩
theorem Sc.quiet (s : Sc w0 w b A) (hb : Below w.heap.size w w') : Sc w0 w' b A :=
  ⟨s.bel.trans (hb.mono s.bel.size), Blk.below s.acc hb (Blk.lt s.acc), s.ok, s.ge⟩
theorem Sc.start (hb : Below w0.heap.size w0 w) {b0 : Nat} (hw : w.heap.size = b0 ∨ True) (ha : AccAt w' w.heap.size A) (hk : AcOk A) (h2 : Below w.heap.size w w') : Sc w0 w' w.heap.size A :=
  ⟨hb.trans (h2.mono hb.size), ha, hk, hb.size⟩
theorem Sc.add (s : Sc w0 w b A) (c e : Int) (h : acAdd A c = (A', e)) (h1 : -9223372036854775808 ≤ c) (h2 : c ≤ 9223372036854775807) :
    Calls Try.prog 12 #[.pointer (some ⟨b, 0, none⟩), .int .i64 c] w fun e' w' => e' = .returned (.int .i64 e) ∧ Sc w0 w' b A' := by
  refine (add_any b A c w s.acc s.ok h1 h2).mono ?_
  rintro e' w' ⟨rfl, ha, hg⟩
  have hk := acAdd_AcOk c s.ok
  rw [h] at ha hk ⊢
  exact ⟨rfl, s.op ha hg hk⟩
theorem Sc.rem (s : Sc w0 w b A) (c e : Int) (h : acRem A c = (A', e)) (h1 : -9223372036854775808 ≤ c) (h2 : c ≤ 9223372036854775807) :
    Calls Try.prog 17 #[.pointer (some ⟨b, 0, none⟩), .int .i64 c] w fun e' w' => e' = .returned (.int .i64 e) ∧ Sc w0 w' b A' := by
  refine (rem_any b A c w s.acc s.ok h1 h2).mono ?_
  rintro e' w' ⟨rfl, ha, hg⟩
  have hk := acRem_AcOk c s.ok
  rw [h] at ha hk ⊢
  exact ⟨rfl, s.op ha hg hk⟩
theorem Sc.chg (s : Sc w0 w b A) (c d e : Int) (h : acChg A c d = (A', e)) (h1 : -9223372036854775808 ≤ c) (h2 : c ≤ 9223372036854775807) (h3 : -9223372036854775808 ≤ d) (h4 : d ≤ 9223372036854775807) :
    Calls Try.prog 15 #[.pointer (some ⟨b, 0, none⟩), .int .i64 c, .int .i64 d] w fun e' w' => e' = .returned (.int .i64 e) ∧ Sc w0 w' b A' := by
  refine (chg_any b A c d w s.acc s.ok h1 h2 h3 h4).mono ?_
  rintro e' w' ⟨rfl, ha, hg⟩
  have hk := acChg_AcOk c d s.ok
  rw [h] at ha hk ⊢
  exact ⟨rfl, s.op ha hg hk⟩
theorem Sc.fits (s : Sc w0 w b A) (c : Int) (r : Bool) (h : (isCost c && decide (c ≤ A.bb)) = r) :
    Calls Try.prog 18 #[.pointer (some ⟨b, 0, none⟩), .int .i64 c] w fun e' w' => e' = .returned (.bool r) ∧ Sc w0 w' b A := by
  subst h
  exact (fits_at b A w s.acc s.ok c).mono fun _ _ h => ⟨h.1, s.quiet h.2⟩
theorem Sc.used (s : Sc w0 w b A) (x y : Int) (r : Bool) (h : (A.ub == x && A.ue == y) = r) :
    Calls Try.prog 13 #[.pointer (some ⟨b, 0, none⟩), .int .i64 x, .int .i64 y] w fun e' w' => e' = .returned (.bool r) ∧ Sc w0 w' b A := by
  subst h
  exact (lawUsed_at b A w s.acc s.ok x y).mono fun _ _ h => ⟨h.1, s.quiet h.2⟩
theorem Sc.over (s : Sc w0 w b A) (x y : Int) (r : Bool) (h : (max 0 (A.ub - A.bb) == x && max 0 (A.ue - A.be) == y) = r) :
    Calls Try.prog 14 #[.pointer (some ⟨b, 0, none⟩), .int .i64 x, .int .i64 y] w fun e' w' => e' = .returned (.bool r) ∧ Sc w0 w' b A := by
  subst h
  exact (lawOver_at b A w s.acc s.ok x y).mono fun _ _ h => ⟨h.1, s.quiet h.2⟩
theorem Sc.budget (s : Sc w0 w b A) (x y : Int) (r : Bool) (h : (A.bb == x && A.be == y) = r) :
    Calls Try.prog 27 #[.pointer (some ⟨b, 0, none⟩), .int .i64 x, .int .i64 y] w fun e' w' => e' = .returned (.bool r) ∧ Sc w0 w' b A := by
  subst h
  exact (lawBudget_at b A w s.acc s.ok x y).mono fun _ _ h => ⟨h.1, s.quiet h.2⟩
/-- A copy: it goes on in the place of the first one. -/
theorem Sc.used' (s : Sc w0 w b A) :
    Calls Try.prog 16 #[.pointer (some ⟨b, 0, none⟩)] w fun e' w' => e' = .returned (.tuple #[.int .i64 A.ub, .int .i64 A.ue]) ∧ Sc w0 w' b A :=
  (used_at b A w s.acc s.ok).mono fun _ _ h => ⟨h.1, s.quiet h.2⟩
end
theorem sc_new (x y : Int) (h1 : 1 ≤ x) (h2 : x ≤ 1099511627776) (h3 : 1 ≤ y) (h4 : y ≤ 1048576) (w0 w : World) (hb : Below w0.heap.size w0 w) :
    Calls Try.prog 11 #[.int .i64 x, .int .i64 y] w fun e w' => e = .returned (.tuple #[.pointer (some ⟨w.heap.size, 0, none⟩), .int .i64 0]) ∧ Sc w0 w' w.heap.size ⟨x, y, 0, 0⟩ := by
  refine (new_yes x y h1 h2 h3 h4 w).mono ?_
  rintro e w' ⟨rfl, ha, hb2⟩
  exact ⟨rfl, hb.trans (hb2.mono hb.size), ha, ⟨h1, h2, h3, h4, by simp, by simp, by simp, by simp⟩, hb.size⟩

theorem lit_reads (W : World) (l : List Bt) (cur : Array Value) (n : Nat) (hc : cur = (l.map encStr).toArray) (hn : n = l.length) (hl : l.length ≤ 1000) :
    Reads (W.alloc (.cells cur 9)) (.slice (some ⟨W.heap.size, 0, none⟩) n n) (l.map encStr) := by
  have h := ownsRow_whole (w := W) (e := 9) (xs := l.map encStr) hc (by rw [List.length_map]; unfold maxLen; omega)
  rw [List.length_map, ← hn] at h
  refine Reads.of_own (base := W.heap.size) (e := 9) ?_ (by rw [List.length_map]; omega)
  rw [List.length_map, ← hn]
  exact h
theorem below_new {W w' : World} {o : Obj} (hb : Below (W.alloc o).heap.size (W.alloc o) w') : Below W.heap.size W w' :=
  ((Below.refl _ _).alloc (Nat.le_refl _) o).trans (hb.mono (by simp))
theorem kc_0 (w : World) : Calls Try.prog 10 #[.string ⟨#[97, 98]⟩, .int .i64 3, .slice (some ⟨w.heap.size, 0, none⟩) 2 2, .int .i64 72, .int .i64 0] (w.alloc (.cells #[.string ⟨#[116]⟩, .string ⟨#[117, 118]⟩] 9)) fun e w' => e = .returned (.bool true) ∧ Below w.heap.size w w' := by
  have h := costs_any ⟨#[97, 98]⟩ 3 _ [[116], [117, 118]] 72 0 (by decide) (by decide) (by decide) (by decide) _ (lit_reads w [[116], [117, 118]] _ 2 rfl rfl (by decide))
  rw [show acCost _ 3 [[116], [117, 118]] = (72, 0) from by decide +kernel] at h
  exact h.mono fun _ _ h => ⟨by simpa using h.1, below_new h.2⟩
theorem kc_1 (w : World) : Calls Try.prog 10 #[.string ⟨#[]⟩, .int .i64 0, .slice none 0 0, .int .i64 0, .int .i64 2] w fun e w' => e = .returned (.bool true) ∧ Below w.heap.size w w' := by
  have h := costs_any ⟨#[]⟩ 0 (.slice none 0 0) [] 0 2 (by decide) (by decide) (by decide) (by simp) w (Reads.nil _ _ _)
  rw [show acCost _ 0 [] = (0, 2) from by decide +kernel] at h
  simpa using h
theorem kc_2 (w : World) : Calls Try.prog 10 #[.string ⟨#[107]⟩, .int .i64 65537, .slice none 0 0, .int .i64 0, .int .i64 5] w fun e w' => e = .returned (.bool true) ∧ Below w.heap.size w w' := by
  have h := costs_any ⟨#[107]⟩ 65537 (.slice none 0 0) [] 0 5 (by decide) (by decide) (by decide) (by simp) w (Reads.nil _ _ _)
  rw [show acCost _ 65537 [] = (0, 5) from by decide +kernel] at h
  simpa using h
theorem kc_3 (w : World) : Calls Try.prog 10 #[.string ⟨#[107]⟩, .int .i64 0, .slice (some ⟨w.heap.size, 0, none⟩) 2 2, .int .i64 0, .int .i64 2] (w.alloc (.cells #[.string ⟨#[98]⟩, .string ⟨#[97]⟩] 9)) fun e w' => e = .returned (.bool true) ∧ Below w.heap.size w w' := by
  have h := costs_any ⟨#[107]⟩ 0 _ [[98], [97]] 0 2 (by decide) (by decide) (by decide) (by decide) _ (lit_reads w [[98], [97]] _ 2 rfl rfl (by decide))
  rw [show acCost _ 0 [[98], [97]] = (0, 2) from by decide +kernel] at h
  exact h.mono fun _ _ h => ⟨by simpa using h.1, below_new h.2⟩
theorem kc_4 (w : World) : Calls Try.prog 10 #[.string ⟨#[107]⟩, .int .i64 0, .slice (some ⟨w.heap.size, 0, none⟩) 2 2, .int .i64 0, .int .i64 2] (w.alloc (.cells #[.string ⟨#[97]⟩, .string ⟨#[97]⟩] 9)) fun e w' => e = .returned (.bool true) ∧ Below w.heap.size w w' := by
  have h := costs_any ⟨#[107]⟩ 0 _ [[97], [97]] 0 2 (by decide) (by decide) (by decide) (by decide) _ (lit_reads w [[97], [97]] _ 2 rfl rfl (by decide))
  rw [show acCost _ 0 [[97], [97]] = (0, 2) from by decide +kernel] at h
  exact h.mono fun _ _ h => ⟨by simpa using h.1, below_new h.2⟩

set_option maxHeartbeats 4000000 in
set_option maxRecDepth 100000 in
theorem known_any (w : World) :
    Calls Try.prog 8 #[] w fun e w' => e = .returned (.bool true) ∧ Below w.heap.size w w' := by
  go_enter Try.func8, Try.ntmps8
  go_wp2_with fail
  refine (kc_0 _).mono ?_
  rintro e w1 ⟨rfl, hb1⟩
  go_wp2_with fail
  refine (kc_1 _).mono ?_
  rintro e w2 ⟨rfl, hb2⟩
  have hb2 := hb1.trans (hb2.mono hb1.size)
  clear hb1
  go_wp2_with fail
  refine (kc_2 _).mono ?_
  rintro e w3 ⟨rfl, hb3⟩
  have hb3 := hb2.trans (hb3.mono hb2.size)
  clear hb2
  go_wp2_with fail
  refine (kc_3 _).mono ?_
  rintro e w4 ⟨rfl, hb4⟩
  have hb4 := hb3.trans (hb4.mono hb3.size)
  clear hb3
  go_wp2_with fail
  refine (kc_4 _).mono ?_
  rintro e w5 ⟨rfl, hb5⟩
  have hb5 := hb4.trans (hb5.mono hb4.size)
  clear hb4
  go_wp2_with fail
  refine (sc_new 200 2 (by decide) (by decide) (by decide) (by decide) w _ hb5).mono ?_
  rintro e v0 ⟨rfl, s0⟩
  obtain ⟨b, hbb⟩ : ∃ b, w5.heap.size = b := ⟨_, rfl⟩
  rw [hbb] at s0 ⊢
  clear hbb hb5
  go_wp2_with fail
  refine (s0.add (A' := ⟨200, 2, 70, 1⟩) 70 0 (by simp [acAdd, isCost]) (by decide) (by decide)).mono ?_
  rintro e v1 ⟨rfl, s1⟩
  clear s0
  go_wp2_with fail
  refine (s1.add (A' := ⟨200, 2, 150, 2⟩) 80 0 (by simp [acAdd, isCost]) (by decide) (by decide)).mono ?_
  rintro e v2 ⟨rfl, s2⟩
  clear s1
  go_wp2_with fail
  refine (s2.over 0 0 true (by decide)).mono ?_
  rintro e v3 ⟨rfl, s3⟩
  clear s2
  go_wp2_with fail
  refine (s3.add (A' := ⟨200, 2, 250, 3⟩) 100 0 (by simp [acAdd, isCost]) (by decide) (by decide)).mono ?_
  rintro e v4 ⟨rfl, s4⟩
  clear s3
  go_wp2_with fail
  refine (s4.used 250 3 true (by decide)).mono ?_
  rintro e v5 ⟨rfl, s5⟩
  clear s4
  go_wp2_with fail
  refine (s5.over 50 1 true (by decide)).mono ?_
  rintro e v6 ⟨rfl, s6⟩
  clear s5
  go_wp2_with fail
  refine (s6.rem (A' := ⟨200, 2, 179, 2⟩) 71 0 (by simp [acRem, isCost, fitsIn]) (by decide) (by decide)).mono ?_
  rintro e v7 ⟨rfl, s7⟩
  clear s6
  go_wp2_with fail
  refine (s7.rem (A' := ⟨200, 2, 109, 1⟩) 70 0 (by simp [acRem, isCost, fitsIn]) (by decide) (by decide)).mono ?_
  rintro e v8 ⟨rfl, s8⟩
  clear s7
  go_wp2_with fail
  refine (s8.chg (A' := ⟨200, 2, 109, 1⟩) 80 90 9 (by simp [acRem, acChg, isCost, fitsIn]) (by decide) (by decide) (by decide) (by decide)).mono ?_
  rintro e v9 ⟨rfl, s9⟩
  clear s8
  go_wp2_with fail
  refine (s9.used 109 1 true (by decide)).mono ?_
  rintro e v10 ⟨rfl, s10⟩
  clear s9
  go_wp2_with fail
  refine (s10.over 0 0 true (by decide)).mono ?_
  rintro e v11 ⟨rfl, s11⟩
  clear s10
  go_wp2_with fail
  refine (s11.fits 200 true (by decide)).mono ?_
  rintro e v12 ⟨rfl, s12⟩
  clear s11
  go_wp2_with fail
  refine (s12.fits 201 false (by decide)).mono ?_
  rintro e v13 ⟨rfl, s13⟩
  clear s12
  go_wp2_with fail
  refine (s13.fits 64 false (by decide)).mono ?_
  rintro e v14 ⟨rfl, s14⟩
  clear s13
  go_wp2_with fail
  refine (s14.chg (A' := ⟨200, 2, 65, 1⟩) 109 65 0 (by simp [acAdd, acRem, acChg, isCost, fitsIn]) (by decide) (by decide) (by decide) (by decide)).mono ?_
  rintro e v15 ⟨rfl, s15⟩
  clear s14
  go_wp2_with fail
  refine (s15.rem (A' := ⟨200, 2, 65, 1⟩) 66 9 (by simp [acRem, isCost, fitsIn]) (by decide) (by decide)).mono ?_
  rintro e v16 ⟨rfl, s16⟩
  clear s15
  go_wp2_with fail
  refine (s16.rem (A' := ⟨200, 2, 0, 0⟩) 65 0 (by simp [acRem, isCost, fitsIn]) (by decide) (by decide)).mono ?_
  rintro e v17 ⟨rfl, s17⟩
  clear s16
  go_wp2_with fail
  refine (s17.rem (A' := ⟨200, 2, 0, 0⟩) 65 9 (by simp [acRem, isCost, fitsIn]) (by decide) (by decide)).mono ?_
  rintro e v18 ⟨rfl, s18⟩
  clear s17
  go_wp2_with fail
  refine (s18.add (A' := ⟨200, 2, 0, 0⟩) 64 3 (by simp [acAdd, isCost]) (by decide) (by decide)).mono ?_
  rintro e v19 ⟨rfl, s19⟩
  clear s18
  go_wp2_with fail
  refine (new_no 0 1 (by decide) _).mono ?_
  rintro e w' ⟨rfl, rfl⟩
  go_wp2_with fail
  refine (new_no 1 1048577 (by decide) _).mono ?_
  rintro e w' ⟨rfl, rfl⟩
  go_wp2_with fail
  go_ret
  exact ⟨rfl, s19.bel⟩
end Go.Proofs.Ytnfehdcinmgnjaa
