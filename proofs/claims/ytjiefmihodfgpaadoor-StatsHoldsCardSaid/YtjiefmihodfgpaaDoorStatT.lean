/- The reference's Note with its error. -/
import Derived.Test.YtjiefmihodfgpaaDoorStatS
namespace Go.Proofs.YtjiefmihodfgpaaDoor
set_option linter.unusedVariables false
open Go.RowKit Go.Maps Go.Sort

section
variable (b : Nat) (l ms : List Int) (v : Value) (R : Rp) (hl : ms.length ≤ 1000) (w : World) (hI : ItemsAt w b R.p ms) (hlt : b < w.heap.size) (hv : LsAt w b v l)
include hl hI hlt hv
theorem refNote24_any (h : rightR R.op R.cnt ms = true) (hcn : R.cnt ≤ 9223372036854775807) :
    Calls Tryd.prog 42 #[v, .agg (rcs R ms.length)] w fun e w' => ∃ v', e = .returned v' ∧ LsAt w' b v' (noteR l R.op R.err R.cnt ms).1 ∧ Below w.heap.size w w' := by
  obtain ⟨⟨⟨h1, h2⟩, h3⟩, h4⟩ : ((1 ≤ R.op ∧ R.op ≤ 15) ∧ 0 ≤ R.cnt) ∧ ms.any markBad = false := by
    unfold rightR at h
    simpa only [Bool.and_eq_true, decide_eq_true_eq, Bool.not_eq_true'] using h
  by_cases he : R.err = 0
  · have e : noteR l R.op R.err R.cnt ms = (notedL l R.op.toNat R.cnt ms, 0) := by unfold noteR; rw [if_pos h, if_pos he]
    rw [e]
    exact refNoteN_any b l ms v R hl w hI hlt hv he h1 h2 h3 hcn
  · have e : noteR l R.op R.err R.cnt ms = (raiseL l 1 1, 0) := by unfold noteR; rw [if_pos h, if_neg he]
    rw [e]
    exact refNoteE_any b l ms v R w hI hlt hv he
set_option maxHeartbeats 4000000 in
set_option maxRecDepth 100000 in
theorem refNote_any (hcn : R.cnt ≤ 9223372036854775807) :
    Calls Tryd.prog 25 #[v, .agg (rcs R ms.length)] w fun e w' => ∃ v', e = .returned (.tuple #[v', .int .i64 (noteR l R.op R.err R.cnt ms).2]) ∧ LsAt w' b v' (noteR l R.op R.err R.cnt ms).1 ∧ Below w.heap.size w w' := by
  have s0 := sr_box b ms R w hI hlt
  have v0 := hv.below ((Below.refl _ _).alloc (Nat.le_refl _) (.cells (rcs R ms.length) 40))
  have HRI := Lib.hid (right_any b ms R hl _ s0.items s0.lt)
  have HN : Hid (∀ w', Sr w w' b w.heap.size (rcs R ms.length) R.p ms → LsAt w' b v l → rightR R.op R.cnt ms = true → Calls Tryd.prog 42 #[v, .agg (rcs R ms.length)] w' fun e w'' => ∃ v', e = .returned v' ∧ LsAt w'' b v' (noteR l R.op R.err R.cnt ms).1 ∧ Below w'.heap.size w' w'') :=
    fun w' s lv h => refNote24_any b l ms v R hl w' s.items s.lt lv h hcn
  have H2 : Hid (rightR R.op R.cnt ms = true → (noteR l R.op R.err R.cnt ms).2 = 0) := fun h => by
    unfold noteR; rw [if_pos h]; split <;> rfl
  have H3 : Hid (rightR R.op R.cnt ms = false → noteR l R.op R.err R.cnt ms = (l, 2)) := fun h => by
    unfold noteR; rw [if_neg (by rw [h]; decide)]
  clear hI hv
  generalize noteR l R.op R.err R.cnt ms = NR at *
  obtain ⟨op, err, ver, cnt, p, cap, q, n2, c2⟩ := R
  simp only at *
  have HS0 := Lib.hid s0
  have HV0 := Lib.hid v0
  clear s0 v0
  rcases Bool.eq_false_or_eq_true (rightR op cnt ms) with hb | hb
  · have HN2 := Lib.hid (fun w' s lv => HN.out w' s lv hb)
    have HZ := Lib.hid (H2.out hb)
    rw [hb] at HRI
    clear HN H2 H3 hb
    go_enter Tryd.func25, Tryd.ntmps25
    go_wp2_with fail
    refine HRI.out.mono ?_
    rintro e w1 ⟨rfl, b1⟩
    have s1 := HS0.out.quiet b1
    have v1 := HV0.out.below b1
    have c0 := Blk.cell s1.box 0
    have c1 := Blk.cell s1.box 1
    have c3 := Blk.cell s1.box 2
    have c4 := Blk.cell s1.box 3
    have c5 := Blk.cell s1.box 4
    have c6 := Blk.cell s1.box 5
    have HC := Lib.hid (HN2.out _ s1 v1)
    have hbel := s1.bel
    clear HRI HN2 s1 v1 b1
    simp at c0 c1 c3 c4 c5 c6
    go_wp2_with fail
    refine HC.out.mono ?_
    rintro e w2 ⟨v2, rfl, l2, b2⟩
    go_wp2_with fail
    go_ret2
    exact ⟨_, by rw [HZ.out]; rfl, l2, hbel.trans (b2.mono hbel.size)⟩
  · have e := H3.out hb
    subst e
    rw [hb] at HRI
    clear HN H2 H3 hb
    go_enter Tryd.func25, Tryd.ntmps25
    go_wp2_with fail
    refine HRI.out.mono ?_
    rintro e w1 ⟨rfl, b1⟩
    have s1 := HS0.out.quiet b1
    have v1 := HV0.out.below b1
    go_wp2_with fail
    go_ret2
    exact ⟨_, rfl, v1, s1.bel⟩
end
end Go.Proofs.YtjiefmihodfgpaaDoor
