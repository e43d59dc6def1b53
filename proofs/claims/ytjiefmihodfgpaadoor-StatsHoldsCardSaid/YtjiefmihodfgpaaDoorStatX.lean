/- The law StatsSums: it returns true. -/
import Derived.Test.YtjiefmihodfgpaaDoorStatW
import Derived.Test.YtjiefmihodfgpaaDoorStatL
namespace Go.Proofs.YtjiefmihodfgpaaDoor
set_option linter.unusedVariables false
open Go.RowKit Go.Maps Go.Sort

theorem isU_of_wf {l : List Int} (h : ∀ x ∈ l, (Lit.int .u64 x).wf = true) : ∀ x ∈ l, isU x := fun x hx => by
  have := bounds_u64 (h x hx)
  exact ⟨this.1, by have := this.2; omega⟩
/-- Within a law of two lists. -/
structure Sq (w0 w : World) (va vb : Value) (a b : List Int) : Prop where
  laid : LaidS w
  ra : Reads w va (u64s a)
  rb : Reads w vb (u64s b)
  bel : Below w0.heap.size w0 w
theorem Sq.quiet {w0 w w' : World} {va vb : Value} {a b : List Int} (s : Sq w0 w va vb a b) (hb : Below w.heap.size w w') : Sq w0 w' va vb a b :=
  ⟨s.laid.below hb s.laid.ge, s.ra.below hb, s.rb.below hb, s.bel.trans (hb.mono s.bel.size)⟩

set_option maxHeartbeats 4000000 in
set_option maxRecDepth 100000 in
theorem sums_walk (va vb : Value) (a b : List Int) (ra : ∀ x ∈ a, (Lit.int .u64 x).wf = true) (rb : ∀ x ∈ b, (Lit.int .u64 x).wf = true) (w : World) (hra : Reads w va (a.map (Value.int .u64))) (hrb : Reads w vb (b.map (Value.int .u64))) (hL : LaidS w) :
    Calls Tryd.prog 3 #[va, vb] w fun e w' => e = .returned (.bool true) ∧ Below w.heap.size w w' := by
  have hA := isU_of_wf ra
  have hB := isU_of_wf rb
  have s0 : Sq w w va vb a b := ⟨hL, hra, hrb, Below.refl _ _⟩
  obtain ⟨pa, ca, rfl, _, _⟩ := hra
  obtain ⟨pb, cb, rfl, _, _⟩ := hrb
  simp only [List.length_map] at *
  have HA := Lib.hid hA
  have HB := Lib.hid hB
  clear hL ra rb hA hB
  by_cases h1 : a.length ≤ 20 ∧ b.length ≤ 20
  · obtain ⟨h1, h2⟩ := h1
    obtain ⟨S, hS⟩ : ∃ S, sumOf a b = S := ⟨_, rfl⟩
    obtain ⟨D, hD⟩ : ∃ D, lessOf a b = D := ⟨_, rfl⟩
    obtain ⟨R1, hR1⟩ : ∃ R1, ratOf a = R1 := ⟨_, rfl⟩
    obtain ⟨R2, hR2⟩ : ∃ R2, ratOf b = R2 := ⟨_, rfl⟩
    have hSl : S.1.length ≤ 16 := hS ▸ sumOf_len a b
    have hDl : D.1.length ≤ 16 := hD ▸ lessOf_len a b
    have H1 := Lib.hid (hS ▸ refAdd_any _ _ a b HA.out HB.out w s0.ra s0.rb)
    have HS := Lib.hid hS
    have HD := Lib.hid hD
    have HR1 := Lib.hid hR1
    have HR2 := Lib.hid hR2
    clear hS hD hR1 hR2
    go_enter Tryd.func3, Tryd.ntmps3
    go_wp2_with fail
    with_reducible refine H1.out.mono ?_
    rintro e w1 ⟨v1, rfl, ho1, b1⟩
    have s1 := s0.quiet b1
    have r1 := reads_of_own ho1 (by omega)
    have H2 := Lib.hid (HD.out ▸ refSub_any _ _ a b HA.out HB.out w1 s1.ra s1.rb)
    clear H1 ho1 b1 s0
    go_wp2_with fail
    with_reducible refine H2.out.mono ?_
    rintro e w2 ⟨v2, rfl, ho2, b2⟩
    have s2 := s1.quiet b2
    have r2 := reads_of_own ho2 (by omega)
    have r1 := r1.below b2
    have H3 := Lib.hid (HR1.out ▸ refRatio_any _ a (by omega) HA.out w2 s2.ra)
    clear H2 ho2 b2 s1
    go_wp2_with fail
    with_reducible refine H3.out.mono ?_
    rintro e w3 ⟨rfl, b3⟩
    have s3 := s2.quiet b3
    have r2 := r2.below b3
    have r1 := r1.below b3
    have H4 := Lib.hid (HR2.out ▸ refRatio_any _ b (by omega) HB.out w3 s3.rb)
    clear H3 b3 s2
    go_wp2_with fail
    with_reducible refine H4.out.mono ?_
    rintro e w4 ⟨rfl, b4⟩
    have s4 := s3.quiet b4
    have r2 := r2.below b4
    have r1 := r1.below b4
    have H5 := Lib.hid (sums_any _ _ v1 v2 a b (by omega) (by omega) HA.out HB.out S D HS.out HD.out w4 s4.ra s4.rb r1 r2)
    clear H4 b4 s3 r1 r2
    go_wp2_with fail
    with_reducible refine H5.out.mono ?_
    rintro e w5 ⟨rfl, b5⟩
    have s5 := s4.quiet b5
    have H6 := Lib.hid (lawRatio_any _ a (by omega) HA.out R1 HR1.out w5 s5.ra)
    clear H5 b5 s4
    go_wp2_with fail
    with_reducible refine H6.out.mono ?_
    rintro e w6 ⟨rfl, b6⟩
    have s6 := s5.quiet b6
    have H7 := Lib.hid (lawRatio_any _ b (by omega) HB.out R2 HR2.out w6 s6.rb)
    clear H6 b6 s5
    go_wp2_with fail
    with_reducible refine H7.out.mono ?_
    rintro e w7 ⟨rfl, b7⟩
    have s7 := s6.quiet b7
    clear H7 b7 s6
    go_wp2_with fail
    refine (known_any _ s7.laid).mono ?_
    rintro e w8 ⟨rfl, b8⟩
    have s8 := s7.quiet b8
    clear b8 s7
    go_wp2_with fail
    go_ret
    exact ⟨rfl, s8.bel⟩
  · have hL := s0.laid
    have h2 : 20 < a.length ∨ (a.length ≤ 20 ∧ 20 < b.length) := by omega
    rcases h2 with h2 | ⟨h2, h3⟩
    all_goals
      clear h1 s0
      go_enter Tryd.func3, Tryd.ntmps3
      go_wp2_with fail
      refine (known_any _ hL).mono ?_
      rintro e w8 ⟨rfl, b8⟩
      go_wp2_with fail
      go_ret
      exact ⟨rfl, b8⟩
end Go.Proofs.YtjiefmihodfgpaaDoor
