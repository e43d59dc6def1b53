/- Sums and ratios as the law's helpers see them. -/
import Derived.Test.YtjiefmihodfgpaaDoorStatI
namespace Go.Proofs.YtjiefmihodfgpaaDoor
set_option linter.unusedVariables false
open Go.RowKit Go.Maps Go.Sort

section
variable (va vb : Value) (a b : List Int) (hA : ∀ x ∈ a, isU x) (hB : ∀ x ∈ b, isU x) (w : World) (ra : Reads w va (u64s a)) (rb : Reads w vb (u64s b))
include hA hB ra rb
theorem add_any : Calls Tryd.prog 18 #[va, vb] w fun e w' => Gives w w' e (sumOf a b) := by
  unfold sumOf
  by_cases h : a.length = 16 ∧ b.length = 16
  · rw [if_pos h]; exact add_ok va vb a b h.1 h.2 hA hB w ra rb
  · rw [if_neg h]; exact add_bad va vb a b h w ra rb
theorem refAdd_any : Calls Tryd.prog 9 #[va, vb] w fun e w' => Gives w w' e (sumOf a b) := by
  unfold sumOf
  by_cases h : a.length = 16 ∧ b.length = 16
  · rw [if_pos h]; exact refAdd_ok va vb a b h.1 h.2 hA hB w ra rb
  · rw [if_neg h]; exact refAdd_bad va vb a b h w ra rb
theorem sub_any : Calls Tryd.prog 19 #[va, vb] w fun e w' => Gives w w' e (lessOf a b) := by
  by_cases h : a.length = 16 ∧ b.length = 16
  · exact sub_ok va vb a b h.1 h.2 hA hB w ra rb
  · unfold lessOf; rw [if_neg h]; exact sub_bad va vb a b h w ra rb
theorem refSub_any : Calls Tryd.prog 10 #[va, vb] w fun e w' => Gives w w' e (lessOf a b) := by
  by_cases h : a.length = 16 ∧ b.length = 16
  · exact refSub_ok va vb a b h.1 h.2 hA hB w ra rb
  · unfold lessOf; rw [if_neg h]; exact refSub_bad va vb a b h w ra rb
end
theorem sumOf_len (a b : List Int) : (sumOf a b).1.length ≤ 16 := by
  unfold sumOf
  split
  · rename_i h; rw [addL_len h.1 h.2]; omega
  · simp
theorem lessOf_len (a b : List Int) : (lessOf a b).1.length ≤ 16 := by
  unfold lessOf
  split
  · rename_i h
    split
    · rw [subL_len h.1 h.2]; omega
    · simp
  · simp
theorem reads_of_own {w : World} {B : Nat} {v : Value} {l : List Int} (h : w.ownsRow B 27 1 v l.length (u64s l)) (hl : l.length ≤ 140737488355328) : Reads w v (u64s l) :=
  Reads.of_own (base := B) (e := 27) (by rw [List.length_map]; exact h) (by rw [List.length_map]; exact hl)

theorem ownsRow_keep {w w' : World} {B : Nat} {e : TypeId} {s : Nat} {v : Value} {n : Nat} {xs : List Value} {row : Option Nat} (h : w.ownsRow B e s v n xs) (hg : w.grownBy w' row) (hne : ∀ j, row = some j → v.ownBlock = some j → False) : w'.ownsRow B e s v n xs := by
  refine ⟨h.1, ?_⟩
  rcases h.2 with hn | ⟨g, cap, cur, rfl, hb', hgg, rest⟩
  · exact .inl hn
  · refine .inr ⟨g, cap, cur, rfl, hb', ?_, rest⟩
    rw [hg.block g (Array.getElem?_eq_some_iff.1 hgg).1 (fun e => hne g e.symm rfl)]
    exact hgg

theorem lists_ok (B : Nat) (v vw : Value) (l : List Int) (e : Int) (w : World) (hB : B ≤ w.heap.size) (hl : l.length ≤ 140737488355328) (hown : w.ownsRow B 27 1 v l.length (u64s l)) (hw : Reads w vw (u64s l)) :
    Calls Tryd.prog 29 #[v, .int .i64 e, vw, .int .i64 e] w fun e' w' => e' = .returned (.bool true) ∧ Below B w w' ∧ w.grownBy w' v.ownBlock :=
  (lists_any B v vw l l e e w hB hl hown hw).mono fun _ _ h => ⟨by rw [h.1]; simp, h.2⟩
theorem ids_ok (va vb : Value) (l : List Int) (w : World) (ha : Reads w va (u64s l)) (hb : Reads w vb (u64s l)) :
    Calls Tryd.prog 20 #[va, vb] w fun e w' => e = .returned (.bool true) ∧ Below w.heap.size w w' :=
  (ids_any va vb l l w ha hb).mono fun _ _ h => ⟨by rw [h.1]; simp, h.2⟩

set_option maxHeartbeats 2000000 in
set_option maxRecDepth 100000 in
theorem sums_any (va vb vs vl : Value) (a b : List Int) (la : a.length ≤ 1000) (lb : b.length ≤ 1000) (hA : ∀ x ∈ a, isU x) (hB : ∀ x ∈ b, isU x) (S D : List Int × Int) (hS : sumOf a b = S) (hD : lessOf a b = D) (w : World)
    (ra : Reads w va (u64s a)) (rb : Reads w vb (u64s b)) (rs : Reads w vs (u64s S.1)) (rl : Reads w vl (u64s D.1)) :
    Calls Tryd.prog 12 #[va, vb, vs, .int .i64 S.2, vl, .int .i64 D.2] w fun e w' => e = .returned (.bool true) ∧ Below w.heap.size w w' := by
  have hSl : S.1.length ≤ 16 := hS ▸ sumOf_len a b
  have hDl : D.1.length ≤ 16 := hD ▸ lessOf_len a b
  have HADD : Hid (∀ (va vb : Value) (w : World), Reads w va (u64s a) → Reads w vb (u64s b) → Calls Tryd.prog 18 #[va, vb] w fun e w' => Gives w w' e S) := fun va vb w ra rb => hS ▸ add_any va vb a b hA hB w ra rb
  have HSUB : Hid (∀ (va vb : Value) (w : World), Reads w va (u64s a) → Reads w vb (u64s b) → Calls Tryd.prog 19 #[va, vb] w fun e w' => Gives w w' e D) := fun va vb w ra rb => hD ▸ sub_any va vb a b hA hB w ra rb
  clear hS hD hA hB
  obtain ⟨S, e⟩ := S
  obtain ⟨D, f⟩ := D
  obtain ⟨i0, hi, hz0, hz1, hz2⟩ := info_parts info_u64
  have HRA := Lib.hid ra
  have HRB := Lib.hid rb
  have HRS := Lib.hid rs
  have HRL := Lib.hid rl
  clear ra rb rs rl
  go_enter Tryd.func12, Tryd.ntmps12
  go_wp2_with (first
    | (at_builtin; refine wpList_append_reads _ rfl _ _ 22 rfl w.heap.size 27 i0 (.int .u64 0) 8 Tryd.underlying22 hi hz0 hz1 hz2 rfl _ _ _ rfl (World.ownsRow_nil _ _ _ _) va (u64s a) rfl HRA.out (one_u64s a) (by rw [List.length_map]; unfold maxLen; omega) (by rw [List.length_map]; omega) (Nat.le_refl _) ?_; intro v1 w1 hown1 hg1 hat1)
    | (at_builtin; refine wpList_append_reads _ rfl _ _ 22 rfl w1.heap.size 27 i0 (.int .u64 0) 8 Tryd.underlying22 hi hz0 hz1 hz2 rfl _ _ _ rfl (World.ownsRow_nil _ _ _ _) vb (u64s b) rfl (HRB.out.below ((Below.refl _ _).grown hg1 (Nat.le_refl _) (fun j hj => by cases hj))) (one_u64s b) (by rw [List.length_map]; unfold maxLen; omega) (by rw [List.length_map]; omega) (Nat.le_refl _) ?_; intro v2 w2 hown2 hg2 hat2)
    | fail)
  rw [List.length_map, Nat.zero_add, List.nil_append] at hown1 hown2
  have b1 : Below w.heap.size w w1 := (Below.refl _ _).grown hg1 (Nat.le_refl _) (fun j hj => by cases hj)
  have b2 : Below w1.heap.size w1 w2 := (Below.refl _ _).grown hg2 (Nat.le_refl _) (fun j hj => by cases hj)
  have r1 := (reads_of_own hown1 (by omega)).below b2
  have r2 := reads_of_own hown2 (by omega)
  have b12 := b1.trans (b2.mono b1.size)
  clear hown1 hown2 hg2 hat2 hg1 hat1 b1 b2 hi hz0 hz1 hz2
  refine (HADD.out v1 v2 _ r1 r2).mono ?_
  rintro e' w3 ⟨v3, rfl, hown3, b3⟩
  have s12 := b12.size
  have s23 := b3.size
  clear HADD
  go_wp2_with fail
  refine (HSUB.out v1 v2 _ (r1.below b3) (r2.below b3)).mono ?_
  rintro e' w4 ⟨v4, rfl, hown4, b4⟩
  have b24 := b3.trans (b4.mono s23)
  have s34 := b4.size
  have hlt4 : ∀ j, v3.ownBlock = some j → j < w3.heap.size := fun j hj => by
    rcases hown3.2 with ⟨rfl, _⟩ | ⟨g, cap, cur, rfl, hbg, hgs, _⟩
    · cases hj
    · injection hj with hj; subst hj; exact (Array.getElem?_eq_some_iff.1 hgs).1
  have hge4 : ∀ j, v4.ownBlock = some j → w3.heap.size ≤ j := fun j hj => (hown4.lt j hj).1
  have hown3' := ownsRow_below hown3 b4
  have HLS := Lib.hid (lists_ok w2.heap.size v3 vs S e w4 (by omega) (by omega) hown3' ((HRS.out.below (b12.trans (b24.mono s12)))))
  clear b3 b4 HSUB hown3 hown3'
  go_wp2_with fail
  refine HLS.out.mono ?_
  rintro e' w5 ⟨rfl, b5, g5⟩
  have b25 := b24.trans b5
  have s45 := b5.size
  have hown4' := ownsRow_low (ownsRow_keep hown4 g5 (fun j h3 h4 => by have := hlt4 j h3; have := hge4 j h4; omega)) s23
  have HLD := Lib.hid (lists_ok w2.heap.size v4 vl D f w5 (by omega) (by omega) hown4' ((HRL.out.below (b12.trans (b25.mono s12)))))
  clear HLS b24 b5 g5 hlt4 hge4 hown4 hown4'
  go_wp2_with fail
  refine HLD.out.mono ?_
  rintro e' w6 ⟨rfl, b6, _⟩
  have b26 := b25.trans b6
  have b16 := b12.trans (b26.mono s12)
  have H1 := Lib.hid (ids_ok v1 va a w6 (r1.below b26) (HRA.out.below b16))
  clear HLD b25 b6
  go_wp2_with fail
  refine H1.out.mono ?_
  rintro e' w7 ⟨rfl, b7⟩
  have b27 := b26.trans (b7.mono b26.size)
  have b17 := b12.trans (b27.mono s12)
  have H2 := Lib.hid (ids_ok v2 vb b w7 (r2.below b27) (HRB.out.below b17))
  clear H1 b7 b26 b16
  go_wp2_with fail
  refine H2.out.mono ?_
  rintro e' w8 ⟨rfl, b8⟩
  go_wp2_with fail
  go_ret
  exact ⟨rfl, b17.trans (b8.mono b17.size)⟩

/-- The ratio of a list, and its error. -/
def ratOf (l : List Int) : Int × Int × Int := if l.length = 16 then ratioOf (l.getD 3 0) (l.getD 4 0) (l.getD 2 0) else (0, 0, 2)
theorem ratio_any (v : Value) (l : List Int) (hl : l.length ≤ 1000) (hA : ∀ x ∈ l, isU x) (w : World) (hr : Reads w v (u64s l)) :
    Calls Tryd.prog 33 #[v] w fun e w' => e = .returned (.tuple #[.int .u64 (ratOf l).1, .int .u64 (ratOf l).2.1, .int .i64 (ratOf l).2.2]) ∧ Below w.heap.size w w' := by
  have hr0 := hr
  obtain ⟨p, cap, rfl, _, _⟩ := hr
  obtain ⟨_, hC⟩ := u64At_reads hr0
  rw [List.length_map] at *
  by_cases h : l.length = 16
  · have g : ∀ i, i < 16 → l[i]? = some (l.getD i 0) := fun i hi => by rw [List.getD_eq_getElem?_getD, List.getElem?_eq_getElem (by omega)]; rfl
    obtain ⟨i1, i2⟩ := getD_is hA 2
    obtain ⟨f1, f2⟩ := getD_is hA 3
    obtain ⟨s1, s2⟩ := getD_is hA 4
    have g2 := g 2 (by decide)
    have g3 := g 3 (by decide)
    have g4 := g 4 (by decide)
    unfold ratOf
    rw [if_pos h, h]
    generalize l.getD 2 0 = i at *
    generalize l.getD 3 0 = f at *
    generalize l.getD 4 0 = s at *
    obtain ⟨i, rfl⟩ := Int.eq_ofNat_of_zero_le i1
    obtain ⟨f, rfl⟩ := Int.eq_ofNat_of_zero_le f1
    obtain ⟨s, rfl⟩ := Int.eq_ofNat_of_zero_le s1
    exact ratio_ok f s i l p cap w g2 g3 g4 (by omega) (by omega) (by omega) hC
  · unfold ratOf
    rw [if_neg h]
    exact (ratio_bad p l.length cap hl h w).mono fun e w' h => ⟨h.1, h.2 ▸ Below.refl _ _⟩
theorem refRatio_any (v : Value) (l : List Int) (hl : l.length ≤ 1000) (hA : ∀ x ∈ l, isU x) (w : World) (hr : Reads w v (u64s l)) :
    Calls Tryd.prog 11 #[v] w fun e w' => e = .returned (.tuple #[.int .u64 (ratOf l).1, .int .u64 (ratOf l).2.1, .int .i64 (ratOf l).2.2]) ∧ Below w.heap.size w w' := by
  have hr0 := hr
  obtain ⟨p, cap, rfl, _, _⟩ := hr
  obtain ⟨_, hC⟩ := u64At_reads hr0
  rw [List.length_map] at *
  by_cases h : l.length = 16
  · have g : ∀ i, i < 16 → l[i]? = some (l.getD i 0) := fun i hi => by rw [List.getD_eq_getElem?_getD, List.getElem?_eq_getElem (by omega)]; rfl
    unfold ratOf
    rw [if_pos h, h]
    exact refRatio_ok _ _ _ l p cap w h (g 2 (by decide)) (g 3 (by decide)) (g 4 (by decide)) (getD_is hA 2) (getD_is hA 3) (getD_is hA 4) hC
  · unfold ratOf
    rw [if_neg h]
    exact (refRatio_bad p l.length cap hl h w).mono fun e w' h => ⟨h.1, h.2 ▸ Below.refl _ _⟩
set_option maxHeartbeats 1000000 in
theorem lawRatio_any (v : Value) (l : List Int) (hl : l.length ≤ 1000) (hA : ∀ x ∈ l, isU x) (R : Int × Int × Int) (hR : ratOf l = R) (w : World) (hr : Reads w v (u64s l)) :
    Calls Tryd.prog 13 #[v, .int .u64 R.1, .int .u64 R.2.1, .int .i64 R.2.2] w fun e w' => e = .returned (.bool true) ∧ Below w.heap.size w w' := by
  have HC := Lib.hid (hR ▸ ratio_any v l hl hA w hr)
  clear hr hR hA
  obtain ⟨n, d, e⟩ := R
  go_enter Tryd.func13, Tryd.ntmps13
  go_wp2_with (go_at_call 33; refine HC.out.mono ?_; rintro e' w' ⟨rfl, hb⟩)
  go_ret
  exact ⟨by simp, hb⟩
end Go.Proofs.YtjiefmihodfgpaaDoor
