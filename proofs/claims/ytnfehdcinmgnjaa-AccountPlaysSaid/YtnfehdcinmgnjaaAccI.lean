/- The law AccountPlays: it returns true. -/
import Derived.Test.YtnfehdcinmgnjaaAccH
import Derived.Deep.RegionHeld3
namespace Go.Proofs.Ytnfehdcinmgnjaa
set_option linter.unusedVariables false
open Go.RowKit Go.Maps Go.Sort

abbrev acs (A : Ac) : Array Value := #[.int .i64 A.bb, .int .i64 A.be, .int .i64 A.ub, .int .i64 A.ue]
abbrev xcs (X : Int × Int × Int) : Array Value := #[.int .i64 X.1, .int .i64 X.2.1, .int .i64 X.2.2]
/-- What a walk wants of a list of acts that came in: each cell, by its index. -/
def ActsOf (w : World) (p : Option Addr) (l : List (Int × Int × Int)) : Prop :=
  ∀ i x, l[i]? = some x → ∃ blk off, p = some ⟨blk, off, none⟩ ∧ blk < w.heap.size ∧ w.cell? ⟨blk, off + i * 3, none⟩ = some (.int .i64 x.1) ∧ w.cell? ⟨blk, off + i * 3 + 1, none⟩ = some (.int .i64 x.2.1) ∧ w.cell? ⟨blk, off + i * 3 + 2, none⟩ = some (.int .i64 x.2.2)

/-- Between the rounds: the account, and the reference's block. -/
structure Sy (w0 w : World) (b r : Nat) (A R : Ac) : Prop where
  sc : Sc w0 w b A
  ref : Blk w r 45 (acs R)
  hr : w0.heap.size ≤ r
  rb : r ≠ b
/-- Within a round: the new reference's block and the act's besides. -/
structure Sv (w0 w : World) (b r v x : Nat) (A R V : Ac) (X : Int × Int × Int) : Prop where
  sy : Sy w0 w b r A R
  nv : Blk w v 45 (acs V)
  nx : Blk w x 49 (xcs X)
  hv : w0.heap.size ≤ v
  vb : v ≠ b
  xb : x ≠ b
  vr : v ≠ r
  xr : x ≠ r
  xv : x ≠ v
section
variable {w0 w w' : World} {b r v x : Nat} {A A' R V : Ac} {X : Int × Int × Int}
theorem Sv.quiet (s : Sv w0 w b r v x A R V X) (hb : Below w.heap.size w w') : Sv w0 w' b r v x A R V X :=
  ⟨⟨s.sy.sc.quiet hb, Blk.below s.sy.ref hb (Blk.lt s.sy.ref), s.sy.hr, s.sy.rb⟩, Blk.below s.nv hb (Blk.lt s.nv), Blk.below s.nx hb (Blk.lt s.nx), s.hv, s.vb, s.xb, s.vr, s.xr, s.xv⟩
theorem Sv.op (s : Sv w0 w b r v x A R V X) (ho : AccAt w' b A') (hg : w.grownBy w' (some b)) (hk : AcOk A') : Sv w0 w' b r v x A' R V X :=
  ⟨⟨s.sy.sc.op ho hg hk, Blk.grown s.sy.ref hg (fun e => s.sy.rb (by injection e)), s.sy.hr, s.sy.rb⟩, Blk.grown s.nv hg (fun e => s.vb (by injection e)), Blk.grown s.nx hg (fun e => s.xb (by injection e)), s.hv, s.vb, s.xb, s.vr, s.xr, s.xv⟩
theorem Sv.cells (s : Sv w0 w b r v x A R V X) : (w.cell? ⟨r, 0, none⟩ = some (.int .i64 R.bb) ∧ w.cell? ⟨r, 1, none⟩ = some (.int .i64 R.be) ∧ w.cell? ⟨r, 2, none⟩ = some (.int .i64 R.ub) ∧ w.cell? ⟨r, 3, none⟩ = some (.int .i64 R.ue)) ∧
    (w.cell? ⟨v, 0, none⟩ = some (.int .i64 V.bb) ∧ w.cell? ⟨v, 1, none⟩ = some (.int .i64 V.be) ∧ w.cell? ⟨v, 2, none⟩ = some (.int .i64 V.ub) ∧ w.cell? ⟨v, 3, none⟩ = some (.int .i64 V.ue)) ∧
    (w.cell? ⟨x, 0, none⟩ = some (.int .i64 X.1) ∧ w.cell? ⟨x, 1, none⟩ = some (.int .i64 X.2.1) ∧ w.cell? ⟨x, 2, none⟩ = some (.int .i64 X.2.2)) :=
  ⟨⟨Blk.cell s.sy.ref 0, Blk.cell s.sy.ref 1, Blk.cell s.sy.ref 2, Blk.cell s.sy.ref 3⟩, ⟨Blk.cell s.nv 0, Blk.cell s.nv 1, Blk.cell s.nv 2, Blk.cell s.nv 3⟩, ⟨Blk.cell s.nx 0, Blk.cell s.nx 1, Blk.cell s.nx 2⟩⟩
theorem Sv.thaw (s : Sv w0 w b r v x A R V X) : (w.frozen? ⟨v, 0, none⟩ = false ∧ w.frozen? ⟨v, 1, none⟩ = false ∧ w.frozen? ⟨v, 2, none⟩ = false ∧ w.frozen? ⟨v, 3, none⟩ = false) ∧
    (w.frozen? ⟨r, 0, none⟩ = false ∧ w.frozen? ⟨r, 1, none⟩ = false ∧ w.frozen? ⟨r, 2, none⟩ = false ∧ w.frozen? ⟨r, 3, none⟩ = false) :=
  ⟨⟨Blk.frozen s.nv 0, Blk.frozen s.nv 1, Blk.frozen s.nv 2, Blk.frozen s.nv 3⟩, ⟨Blk.frozen s.sy.ref 0, Blk.frozen s.sy.ref 1, Blk.frozen s.sy.ref 2, Blk.frozen s.sy.ref 3⟩⟩
theorem Sv.add (s : Sv w0 w b r v x A R V X) (c e : Int) (h : acAdd A c = (A', e)) (h1 : -9223372036854775808 ≤ c) (h2 : c ≤ 9223372036854775807) :
    Calls Try.prog 12 #[.pointer (some ⟨b, 0, none⟩), .int .i64 c] w fun e' w' => e' = .returned (.int .i64 e) ∧ Sv w0 w' b r v x A' R V X := by
  refine (add_any b A c w s.sy.sc.acc s.sy.sc.ok h1 h2).mono ?_
  rintro e' w' ⟨rfl, ha, hg⟩
  have hk := acAdd_AcOk c s.sy.sc.ok
  rw [h] at ha hk ⊢
  exact ⟨rfl, s.op ha hg hk⟩
theorem Sv.rem (s : Sv w0 w b r v x A R V X) (c e : Int) (h : acRem A c = (A', e)) (h1 : -9223372036854775808 ≤ c) (h2 : c ≤ 9223372036854775807) :
    Calls Try.prog 17 #[.pointer (some ⟨b, 0, none⟩), .int .i64 c] w fun e' w' => e' = .returned (.int .i64 e) ∧ Sv w0 w' b r v x A' R V X := by
  refine (rem_any b A c w s.sy.sc.acc s.sy.sc.ok h1 h2).mono ?_
  rintro e' w' ⟨rfl, ha, hg⟩
  have hk := acRem_AcOk c s.sy.sc.ok
  rw [h] at ha hk ⊢
  exact ⟨rfl, s.op ha hg hk⟩
theorem Sv.chg (s : Sv w0 w b r v x A R V X) (c d e : Int) (h : acChg A c d = (A', e)) (h1 : -9223372036854775808 ≤ c) (h2 : c ≤ 9223372036854775807) (h3 : -9223372036854775808 ≤ d) (h4 : d ≤ 9223372036854775807) :
    Calls Try.prog 15 #[.pointer (some ⟨b, 0, none⟩), .int .i64 c, .int .i64 d] w fun e' w' => e' = .returned (.int .i64 e) ∧ Sv w0 w' b r v x A' R V X := by
  refine (chg_any b A c d w s.sy.sc.acc s.sy.sc.ok h1 h2 h3 h4).mono ?_
  rintro e' w' ⟨rfl, ha, hg⟩
  have hk := acChg_AcOk c d s.sy.sc.ok
  rw [h] at ha hk ⊢
  exact ⟨rfl, s.op ha hg hk⟩
theorem below_set4 {B g : Nat} {a w : World} (h : Below B a w) (hg : B ≤ g) (u0 u1 u2 u3 : Value) : Below B a ((((w.setCell ⟨g, 0, none⟩ u0).setCell ⟨g, 1, none⟩ u1).setCell ⟨g, 2, none⟩ u2).setCell ⟨g, 3, none⟩ u3) :=
  (((h.setCell hg _).setCell hg _).setCell hg _).setCell hg _
theorem blk_set4 {g : Nat} {t : TypeId} {w : World} {p0 p1 p2 p3 : Value} (h : Blk w g t #[p0, p1, p2, p3]) (u0 u1 u2 u3 : Value) : Blk ((((w.setCell ⟨g, 0, none⟩ u0).setCell ⟨g, 1, none⟩ u1).setCell ⟨g, 2, none⟩ u2).setCell ⟨g, 3, none⟩ u3) g t #[u0, u1, u2, u3] :=
  (((h.set_ 0 u0).set_ 1 u1).set_ 2 u2).set_ 3 u3
theorem blk_far4 {g k : Nat} {t : TypeId} {w : World} {cs : Array Value} (h : Blk w k t cs) (hk : k ≠ g) (u0 u1 u2 u3 : Value) : Blk ((((w.setCell ⟨g, 0, none⟩ u0).setCell ⟨g, 1, none⟩ u1).setCell ⟨g, 2, none⟩ u2).setCell ⟨g, 3, none⟩ u3) k t cs :=
  (((h.far (p := ⟨g, 0, none⟩) hk u0).far (p := ⟨g, 1, none⟩) hk u1).far (p := ⟨g, 2, none⟩) hk u2).far (p := ⟨g, 3, none⟩) hk u3
theorem Sv.setV (s : Sv w0 w b r v x A R V X) (u : Ac) : Sv w0 ((((w.setCell ⟨v, 0, none⟩ (.int .i64 u.bb)).setCell ⟨v, 1, none⟩ (.int .i64 u.be)).setCell ⟨v, 2, none⟩ (.int .i64 u.ub)).setCell ⟨v, 3, none⟩ (.int .i64 u.ue)) b r v x A R u X :=
  ⟨⟨⟨below_set4 s.sy.sc.bel s.hv _ _ _ _, blk_far4 s.sy.sc.acc (fun e => s.vb e.symm) _ _ _ _, s.sy.sc.ok, s.sy.sc.ge⟩, blk_far4 s.sy.ref (fun e => s.vr e.symm) _ _ _ _, s.sy.hr, s.sy.rb⟩,
    blk_set4 s.nv _ _ _ _, blk_far4 s.nx s.xv _ _ _ _, s.hv, s.vb, s.xb, s.vr, s.xr, s.xv⟩
theorem Sv.setR (s : Sv w0 w b r v x A R V X) (u : Ac) : Sv w0 ((((w.setCell ⟨r, 0, none⟩ (.int .i64 u.bb)).setCell ⟨r, 1, none⟩ (.int .i64 u.be)).setCell ⟨r, 2, none⟩ (.int .i64 u.ub)).setCell ⟨r, 3, none⟩ (.int .i64 u.ue)) b r v x A u V X :=
  ⟨⟨⟨below_set4 s.sy.sc.bel s.sy.hr _ _ _ _, blk_far4 s.sy.sc.acc (fun e => s.sy.rb e.symm) _ _ _ _, s.sy.sc.ok, s.sy.sc.ge⟩, blk_set4 s.sy.ref _ _ _ _, s.sy.hr, s.sy.rb⟩,
    blk_far4 s.nv s.vr _ _ _ _, blk_far4 s.nx s.xr _ _ _ _, s.hv, s.vb, s.xb, s.vr, s.xr, s.xv⟩
/-- A copy: both the old account and the new one stand. -/
theorem Sv.copy (s : Sv w0 w b r v x A R V X) :
    Calls Try.prog 25 #[.pointer (some ⟨b, 0, none⟩)] w fun e' w' => ∃ b', b' ≠ b ∧ e' = .returned (.pointer (some ⟨b', 0, none⟩)) ∧ Sv w0 w' b' r v x A R V X ∧ Sv w0 w' b r v x A R V X := by
  refine (copy_at b A w s.sy.sc.acc s.sy.sc.ok).mono ?_
  rintro e' w' ⟨rfl, ha, hb⟩
  have q := s.quiet hb
  have l1 := Blk.lt s.sy.sc.acc
  have l2 := Blk.lt s.sy.ref
  have l3 := Blk.lt s.nv
  have l4 := Blk.lt s.nx
  have l5 := s.sy.sc.bel.size
  exact ⟨w.heap.size, by omega, rfl, ⟨⟨⟨q.sy.sc.bel, ha, s.sy.sc.ok, l5⟩, q.sy.ref, s.sy.hr, by omega⟩, q.nv, q.nx, s.hv, by omega, by omega, s.vr, s.xr, s.xv⟩, q⟩
/-- What is done to the old one does not reach the copy. -/
theorem Sv.other {b' : Nat} (s : Sv w0 w b' r v x A R V X) (t : Sv w0 w b r v x A' R V X) (hne : b' ≠ b) (hg : w.grownBy w' (some b)) : Sv w0 w' b' r v x A R V X :=
  ⟨⟨⟨Below.only s.sy.sc.bel hg s.sy.sc.bel.size t.sy.sc.ge, Blk.grown s.sy.sc.acc hg (fun e => hne (by injection e)), s.sy.sc.ok, s.sy.sc.ge⟩, Blk.grown s.sy.ref hg (fun e => t.sy.rb (by injection e)), s.sy.hr, s.sy.rb⟩,
    Blk.grown s.nv hg (fun e => t.vb (by injection e)), Blk.grown s.nx hg (fun e => t.xb (by injection e)), s.hv, s.vb, s.xb, s.vr, s.xr, s.xv⟩
theorem Sv.addO {b' : Nat} (s : Sv w0 w b' r v x A R V X) (t : Sv w0 w b r v x A' R V X) (hne : b' ≠ b) (c : Int) (h1 : -9223372036854775808 ≤ c) (h2 : c ≤ 9223372036854775807) :
    Calls Try.prog 12 #[.pointer (some ⟨b, 0, none⟩), .int .i64 c] w fun e' w' => ∃ (A3 : Ac) (e : Int), e' = .returned (.int .i64 e) ∧ Sv w0 w' b' r v x A R V X ∧ Sv w0 w' b r v x A3 R V X := by
  refine (add_any b A' c w t.sy.sc.acc t.sy.sc.ok h1 h2).mono ?_
  rintro e' w' ⟨rfl, ha, hg⟩
  exact ⟨_, _, rfl, s.other t hne hg, t.op ha hg (acAdd_AcOk c t.sy.sc.ok)⟩
theorem Sv.remO {b' : Nat} (s : Sv w0 w b' r v x A R V X) (t : Sv w0 w b r v x A' R V X) (hne : b' ≠ b) (c : Int) (h1 : -9223372036854775808 ≤ c) (h2 : c ≤ 9223372036854775807) :
    Calls Try.prog 17 #[.pointer (some ⟨b, 0, none⟩), .int .i64 c] w fun e' w' => ∃ e : Int, e' = .returned (.int .i64 e) ∧ Sv w0 w' b' r v x A R V X := by
  refine (rem_any b A' c w t.sy.sc.acc t.sy.sc.ok h1 h2).mono ?_
  rintro e' w' ⟨rfl, ha, hg⟩
  exact ⟨_, rfl, s.other t hne hg⟩
theorem Sv.fits (s : Sv w0 w b r v x A R V X) (c : Int) :
    Calls Try.prog 18 #[.pointer (some ⟨b, 0, none⟩), .int .i64 c] w fun e' w' => e' = .returned (.bool (isCost c && decide (c ≤ A.bb))) ∧ Sv w0 w' b r v x A R V X :=
  (fits_at b A w s.sy.sc.acc s.sy.sc.ok c).mono fun _ _ h => ⟨h.1, s.quiet h.2⟩
theorem Sv.used (s : Sv w0 w b r v x A R V X) (c d : Int) (h : (A.ub == c && A.ue == d) = true) :
    Calls Try.prog 13 #[.pointer (some ⟨b, 0, none⟩), .int .i64 c, .int .i64 d] w fun e' w' => e' = .returned (.bool true) ∧ Sv w0 w' b r v x A R V X :=
  (lawUsed_at b A w s.sy.sc.acc s.sy.sc.ok c d).mono fun _ _ k => ⟨h ▸ k.1, s.quiet k.2⟩
theorem Sv.over (s : Sv w0 w b r v x A R V X) (c d : Int) (h : (max 0 (A.ub - A.bb) == c && max 0 (A.ue - A.be) == d) = true) :
    Calls Try.prog 14 #[.pointer (some ⟨b, 0, none⟩), .int .i64 c, .int .i64 d] w fun e' w' => e' = .returned (.bool true) ∧ Sv w0 w' b r v x A R V X :=
  (lawOver_at b A w s.sy.sc.acc s.sy.sc.ok c d).mono fun _ _ k => ⟨h ▸ k.1, s.quiet k.2⟩
theorem Sv.budget (s : Sv w0 w b r v x A R V X) (c d : Int) (h : (A.bb == c && A.be == d) = true) :
    Calls Try.prog 27 #[.pointer (some ⟨b, 0, none⟩), .int .i64 c, .int .i64 d] w fun e' w' => e' = .returned (.bool true) ∧ Sv w0 w' b r v x A R V X :=
  (lawBudget_at b A w s.sy.sc.acc s.sy.sc.ok c d).mono fun _ _ k => ⟨h ▸ k.1, s.quiet k.2⟩
end

theorem acAdd_bud (A : Ac) (c : Int) : (acAdd A c).1.bb = A.bb ∧ (acAdd A c).1.be = A.be := by
  unfold acAdd
  split
  · split <;> exact ⟨rfl, rfl⟩
  · exact ⟨rfl, rfl⟩
theorem acRem_bud (A : Ac) (c : Int) : (acRem A c).1.bb = A.bb ∧ (acRem A c).1.be = A.be := by
  unfold acRem
  split
  · split <;> exact ⟨rfl, rfl⟩
  · exact ⟨rfl, rfl⟩
theorem acChg_bud (A : Ac) (c d : Int) : (acChg A c d).1.bb = A.bb ∧ (acChg A c d).1.be = A.be := by
  unfold acChg
  split
  · split
    · exact ⟨(acAdd_bud _ _).1.trans (acRem_bud A c).1, (acAdd_bud _ _).2.trans (acRem_bud A c).2⟩
    · exact acRem_bud A c
  · exact ⟨rfl, rfl⟩

set_option maxHeartbeats 4000000 in
set_option maxRecDepth 100000 in
theorem plays_walk (B E : Int) (p : Option Addr) (cap : Nat) (l : List (Int × Int × Int)) (w : World)
    (hB : -9223372036854775808 ≤ B ∧ B ≤ 9223372036854775807) (hE : -9223372036854775808 ≤ E ∧ E ≤ 9223372036854775807)
    (hx : ∀ x ∈ l, (-9223372036854775808 ≤ x.1 ∧ x.1 ≤ 9223372036854775807) ∧ (-9223372036854775808 ≤ x.2.1 ∧ x.2.1 ≤ 9223372036854775807) ∧ (-9223372036854775808 ≤ x.2.2 ∧ x.2.2 ≤ 9223372036854775807))
    (hl : l.length ≤ 140737488355328) (hC : ActsOf w p l) :
    Calls Try.prog 6 #[.int .i64 B, .int .i64 E, .slice p l.length cap] w fun e w' => e = .returned (.bool true) ∧ Below w.heap.size w w' := by
  have HC := Lib.hid hC
  have HX := Lib.hid hx
  clear hC hx
  obtain ⟨hB1, hB2⟩ := hB
  obtain ⟨hE1, hE2⟩ := hE
  by_cases h5 : l.length ≤ 100
  · cases hok : newOk B E with
    | false =>
      go_enter Try.func6, Try.ntmps6
      go_wp2_with fail
      refine (new_no B E hok _).mono ?_
      rintro e w1 ⟨rfl, rfl⟩
      go_wp2_with fail
      refine (refNew_no B E hok _).mono ?_
      rintro e w2 ⟨rfl, hb2⟩
      clear hok
      go_wp2_with fail
      refine (known_any _).mono ?_
      rintro e w3 ⟨rfl, b3⟩
      go_wp2_with fail
      go_ret
      exact ⟨rfl, (hb2.alloc hb2.size _).trans (b3.mono (by have := hb2.size; simp; omega))⟩
    | true =>
      have h1 : 1 ≤ B ∧ B ≤ 1099511627776 ∧ 1 ≤ E ∧ E ≤ 1048576 := by simpa [newOk] using hok
      clear hok
      obtain ⟨h1, h2, h3, h4⟩ := h1
      go_enter Try.func6, Try.ntmps6
      go_wp2_with fail
      refine (sc_new B E h1 h2 h3 h4 _ _ (Below.refl _ _)).mono ?_
      rintro e w1 ⟨rfl, s0⟩
      go_wp2_with fail
      refine (refNew_yes B E h1 h2 h3 h4 _).mono ?_
      rintro e w2 ⟨rfl, hb2⟩
      have s1 := s0.quiet hb2
      clear s0 hb2
      go_wp2_with fail
      obtain ⟨b0, hb0⟩ : ∃ b0, w.heap.size = b0 := ⟨_, rfl⟩
      rw [hb0] at s1 ⊢
      have hlt := s1.bel.size
      have hbl := Blk.lt s1.acc
      have s2 : Sy w (w2.alloc (.cells #[.int .i64 B, .int .i64 E, .int .i64 0, .int .i64 0] 45)) b0 w2.heap.size ⟨B, E, 0, 0⟩ ⟨B, E, 0, 0⟩ :=
        ⟨⟨s1.bel.alloc hlt _, Blk.alloc s1.acc _, s1.ok, s1.ge⟩, Blk.new _ _ _, hlt, by omega⟩
      obtain ⟨W, hW⟩ : ∃ W, w2.alloc (.cells #[.int .i64 B, .int .i64 E, .int .i64 0, .int .i64 0] 45) = W := ⟨_, rfl⟩
      obtain ⟨r, hr⟩ : ∃ r, w2.heap.size = r := ⟨_, rfl⟩
      rw [hW, hr] at s2
      rw [hW, hr]
      clear s1 hb0 hlt hbl hW hr
      go_wp2_with fail
      go_loopw [7, 50] (fun a i wr => ∃ (k b : Nat) (A : Ac), k ≤ l.length ∧ i = .int .i64 k ∧ a = .pointer (some ⟨b, 0, none⟩) ∧ A.bb = B ∧ A.be = E ∧ Sy w wr b r A A) (fun _ i _ => l.length - (intOf i).toNat)
      case atStart => exact ⟨0, b0, _, by omega, rfl, rfl, rfl, rfl, s2⟩
      case round =>
        clear s2
        obtain ⟨j, b, A, hj, rfl, rfl, hAB, hAE, s3⟩ := hrel
        by_cases hlt : j < l.length
        · obtain ⟨X, hc⟩ : ∃ X, l[j]? = some X := ⟨l[j], List.getElem?_eq_getElem hlt⟩
          obtain ⟨⟨hx1, hx2⟩, ⟨hx3, hx4⟩, ⟨hx5, hx6⟩⟩ := HX.out X (List.mem_of_getElem? hc)
          obtain ⟨blk, off, rfl, HBLK, cell0, cell1, cell2⟩ := HC.out j X hc
          have hbel := s3.sc.bel
          rw [← hbel.cell (p := ⟨blk, off + j * 3, none⟩) HBLK] at cell0
          rw [← hbel.cell (p := ⟨blk, off + j * 3 + 1, none⟩) HBLK] at cell1
          rw [← hbel.cell (p := ⟨blk, off + j * 3 + 2, none⟩) HBLK] at cell2
          obtain ⟨x1, x2, x3⟩ := X
          have hrl := Blk.lt s3.ref
          have hbl := Blk.lt s3.sc.acc
          have hwl := s3.sc.bel.size
          have sv : Sv w ((wr.alloc (.cells #[.int .i64 x1, .int .i64 x2, .int .i64 x3] 49)).alloc (.cells #[.int .i64 A.bb, .int .i64 A.be, .int .i64 A.ub, .int .i64 A.ue] 45)) b r (wr.heap.size + 1) wr.heap.size A A A (x1, x2, x3) :=
            ⟨⟨⟨(s3.sc.bel.alloc hwl _).alloc (by simp; omega) _, Blk.alloc (Blk.alloc s3.sc.acc _) _, s3.sc.ok, s3.sc.ge⟩, Blk.alloc (Blk.alloc s3.ref _) _, s3.hr, s3.rb⟩, by simpa using Blk.new (wr.alloc _) _ (acs A), Blk.alloc (Blk.new wr _ _) _, by omega, by omega, by omega, by omega, by omega, by omega⟩
          obtain ⟨r0, r1, r2, r3⟩ : (wr.cell? ⟨r, 0, none⟩ = some (.int .i64 A.bb) ∧ wr.cell? ⟨r, 1, none⟩ = some (.int .i64 A.be) ∧ wr.cell? ⟨r, 2, none⟩ = some (.int .i64 A.ub) ∧ wr.cell? ⟨r, 3, none⟩ = some (.int .i64 A.ue)) := ⟨Blk.cell s3.ref 0, Blk.cell s3.ref 1, Blk.cell s3.ref 2, Blk.cell s3.ref 3⟩
          have hqr : Blk (wr.alloc (.cells #[.int .i64 x1, .int .i64 x2, .int .i64 x3] 49)) r 45 (acs A) := Blk.alloc s3.ref _
          obtain ⟨q0, q1, q2, q3⟩ : ((wr.alloc (.cells #[.int .i64 x1, .int .i64 x2, .int .i64 x3] 49)).cell? ⟨r, 0, none⟩ = some (.int .i64 A.bb) ∧ (wr.alloc (.cells #[.int .i64 x1, .int .i64 x2, .int .i64 x3] 49)).cell? ⟨r, 1, none⟩ = some (.int .i64 A.be) ∧ (wr.alloc (.cells #[.int .i64 x1, .int .i64 x2, .int .i64 x3] 49)).cell? ⟨r, 2, none⟩ = some (.int .i64 A.ub) ∧ (wr.alloc (.cells #[.int .i64 x1, .int .i64 x2, .int .i64 x3] 49)).cell? ⟨r, 3, none⟩ = some (.int .i64 A.ue)) := ⟨Blk.cell hqr 0, Blk.cell hqr 1, Blk.cell hqr 2, Blk.cell hqr 3⟩
          obtain ⟨⟨t0, t1, t2, t3⟩, _, ⟨t4, t5, t6⟩⟩ := sv.cells
          have HAB := Lib.hid hAB
          have HAE := Lib.hid hAE
          have hok := sv.sy.sc.ok
          clear hqr r0 r1 r2 r3 hAB hAE
          clear hc hbel hbl hrl hwl s3
          have hw0 : x1 = 0 ∨ x1 = 1 ∨ x1 = 2 ∨ x1 = 3 ∨ (¬ x1 = 0 ∧ ¬ x1 = 1 ∧ ¬ x1 = 2 ∧ ¬ x1 = 3) := by omega
          rcases hw0 with hw0 | hw0 | hw0 | hw0 | ⟨hw0, hw1, hw2, hw3⟩
          · subst hw0
            obtain ⟨A2, e2, hAe⟩ : ∃ A2 e2, acAdd A x2 = (A2, e2) := ⟨_, _, rfl⟩
            have hra : ∀ W, _ := fun W => refAdd_any A x2 W hok
            simp only [hAe, encAc] at hra
            have HRA := Lib.hid hra
            have hbud := acAdd_bud A x2
            rw [hAe] at hbud
            have HAB : Hid (A2.bb = B) := Lib.hid (hbud.1.trans HAB.out)
            have HAE : Hid (A2.be = E) := Lib.hid (hbud.2.trans HAE.out)
            have HE := Lib.hid hAe
            clear hra hbud hAe
            go_wp2_with fail
            refine (HRA.out _).mono ?_
            rintro e W3 ⟨rfl, hb3⟩
            have s4 := sv.quiet hb3
            obtain ⟨⟨c0, c1, c2, c3⟩, ⟨c4, c5, c6, c7⟩, ⟨c8, c9, c10⟩⟩ := s4.cells
            obtain ⟨⟨f0, f1, f2, f3⟩, _⟩ := s4.thaw
            clear sv HRA hb3 q0 q1 q2 q3 t0 t1 t2 t3 t4 t5 t6 cell0 cell1 cell2
            go_wp2_with fail
            have s5 := s4.setV A2
            clear s4 c0 c1 c2 c3 c4 c5 c6 c7 c8 c9 c10 f0 f1 f2 f3
            refine (s5.add x2 e2 HE.out hx3 hx4).mono ?_
            rintro e W4 ⟨rfl, s6⟩
            clear s5
            obtain ⟨_, ⟨c4, c5, c6, c7⟩, _⟩ := s6.cells
            obtain ⟨_, ⟨f0, f1, f2, f3⟩⟩ := s6.thaw
            have hov : ∀ W, _ := fun W => refOver_any A2 W s6.sy.sc.ok
            simp only [encAc] at hov
            have HOV := Lib.hid hov
            clear hov
            go_wp2_with fail
            have s7 := s6.setR A2
            clear s6 c4 c5 c6 c7 f0 f1 f2 f3
            refine (HOV.out _).mono ?_
            rintro e W7 ⟨rfl, hb7⟩
            have s8 := s7.quiet hb7
            obtain ⟨⟨c0, c1, c2, c3⟩, _, _⟩ := s8.cells
            clear s7 hb7 HOV
            go_wp2_with fail
            refine (s8.used _ _ (by simp)).mono ?_
            rintro e W8 ⟨rfl, s9⟩
            clear s8 c0 c1 c2 c3
            go_wp2_with fail
            refine (s9.over _ _ (by simp)).mono ?_
            rintro e W9 ⟨rfl, s10⟩
            clear s9
            go_wp2_with fail
            refine (s10.budget _ _ (by rw [HAB.out, HAE.out]; simp)).mono ?_
            rintro e W10 ⟨rfl, s11⟩
            clear s10
            go_wp2_with fail
            go_roundw
            case rel => exact ⟨j + 1, b, A2, by omega, by go_num, rfl, HAB.out, HAE.out, s11.sy⟩
            case measure => simp [intOf]; omega
          · subst hw0
            obtain ⟨A2, e2, hAe⟩ : ∃ A2 e2, acRem A x2 = (A2, e2) := ⟨_, _, rfl⟩
            have hra : ∀ W, _ := fun W => refRem_any A x2 W hok
            simp only [hAe, encAc] at hra
            have HRA := Lib.hid hra
            have hbud := acRem_bud A x2
            rw [hAe] at hbud
            have HAB : Hid (A2.bb = B) := Lib.hid (hbud.1.trans HAB.out)
            have HAE : Hid (A2.be = E) := Lib.hid (hbud.2.trans HAE.out)
            have HE := Lib.hid hAe
            clear hra hbud hAe
            go_wp2_with fail
            refine (HRA.out _).mono ?_
            rintro e W3 ⟨rfl, hb3⟩
            have s4 := sv.quiet hb3
            obtain ⟨⟨c0, c1, c2, c3⟩, ⟨c4, c5, c6, c7⟩, ⟨c8, c9, c10⟩⟩ := s4.cells
            obtain ⟨⟨f0, f1, f2, f3⟩, _⟩ := s4.thaw
            clear sv HRA hb3 q0 q1 q2 q3 t0 t1 t2 t3 t4 t5 t6 cell0 cell1 cell2
            go_wp2_with fail
            have s5 := s4.setV A2
            clear s4 c0 c1 c2 c3 c4 c5 c6 c7 c8 c9 c10 f0 f1 f2 f3
            refine (s5.rem x2 e2 HE.out hx3 hx4).mono ?_
            rintro e W4 ⟨rfl, s6⟩
            clear s5
            obtain ⟨_, ⟨c4, c5, c6, c7⟩, _⟩ := s6.cells
            obtain ⟨_, ⟨f0, f1, f2, f3⟩⟩ := s6.thaw
            have hov : ∀ W, _ := fun W => refOver_any A2 W s6.sy.sc.ok
            simp only [encAc] at hov
            have HOV := Lib.hid hov
            clear hov
            go_wp2_with fail
            have s7 := s6.setR A2
            clear s6 c4 c5 c6 c7 f0 f1 f2 f3
            refine (HOV.out _).mono ?_
            rintro e W7 ⟨rfl, hb7⟩
            have s8 := s7.quiet hb7
            obtain ⟨⟨c0, c1, c2, c3⟩, _, _⟩ := s8.cells
            clear s7 hb7 HOV
            go_wp2_with fail
            refine (s8.used _ _ (by simp)).mono ?_
            rintro e W8 ⟨rfl, s9⟩
            clear s8 c0 c1 c2 c3
            go_wp2_with fail
            refine (s9.over _ _ (by simp)).mono ?_
            rintro e W9 ⟨rfl, s10⟩
            clear s9
            go_wp2_with fail
            refine (s10.budget _ _ (by rw [HAB.out, HAE.out]; simp)).mono ?_
            rintro e W10 ⟨rfl, s11⟩
            clear s10
            go_wp2_with fail
            go_roundw
            case rel => exact ⟨j + 1, b, A2, by omega, by go_num, rfl, HAB.out, HAE.out, s11.sy⟩
            case measure => simp [intOf]; omega
          · subst hw0
            obtain ⟨A2, e2, hAe⟩ : ∃ A2 e2, acChg A x2 x3 = (A2, e2) := ⟨_, _, rfl⟩
            have hra : ∀ W, _ := fun W => refChg_any A x2 W x3 hok
            simp only [hAe, encAc] at hra
            have HRA := Lib.hid hra
            have hbud := acChg_bud A x2 x3
            rw [hAe] at hbud
            have HAB : Hid (A2.bb = B) := Lib.hid (hbud.1.trans HAB.out)
            have HAE : Hid (A2.be = E) := Lib.hid (hbud.2.trans HAE.out)
            have HE := Lib.hid hAe
            clear hra hbud hAe
            go_wp2_with fail
            refine (HRA.out _).mono ?_
            rintro e W3 ⟨rfl, hb3⟩
            have s4 := sv.quiet hb3
            obtain ⟨⟨c0, c1, c2, c3⟩, ⟨c4, c5, c6, c7⟩, ⟨c8, c9, c10⟩⟩ := s4.cells
            obtain ⟨⟨f0, f1, f2, f3⟩, _⟩ := s4.thaw
            clear sv HRA hb3 q0 q1 q2 q3 t0 t1 t2 t3 t4 t5 t6 cell0 cell1 cell2
            go_wp2_with fail
            have s5 := s4.setV A2
            clear s4 c0 c1 c2 c3 c4 c5 c6 c7 c8 c9 c10 f0 f1 f2 f3
            refine (s5.chg x2 x3 e2 HE.out hx3 hx4 hx5 hx6).mono ?_
            rintro e W4 ⟨rfl, s6⟩
            clear s5
            obtain ⟨_, ⟨c4, c5, c6, c7⟩, _⟩ := s6.cells
            obtain ⟨_, ⟨f0, f1, f2, f3⟩⟩ := s6.thaw
            have hov : ∀ W, _ := fun W => refOver_any A2 W s6.sy.sc.ok
            simp only [encAc] at hov
            have HOV := Lib.hid hov
            clear hov
            go_wp2_with fail
            have s7 := s6.setR A2
            clear s6 c4 c5 c6 c7 f0 f1 f2 f3
            refine (HOV.out _).mono ?_
            rintro e W7 ⟨rfl, hb7⟩
            have s8 := s7.quiet hb7
            obtain ⟨⟨c0, c1, c2, c3⟩, _, _⟩ := s8.cells
            clear s7 hb7 HOV
            go_wp2_with fail
            refine (s8.used _ _ (by simp)).mono ?_
            rintro e W8 ⟨rfl, s9⟩
            clear s8 c0 c1 c2 c3
            go_wp2_with fail
            refine (s9.over _ _ (by simp)).mono ?_
            rintro e W9 ⟨rfl, s10⟩
            clear s9
            go_wp2_with fail
            refine (s10.budget _ _ (by rw [HAB.out, HAE.out]; simp)).mono ?_
            rintro e W10 ⟨rfl, s11⟩
            clear s10
            go_wp2_with fail
            go_roundw
            case rel => exact ⟨j + 1, b, A2, by omega, by go_num, rfl, HAB.out, HAE.out, s11.sy⟩
            case measure => simp [intOf]; omega
          · subst hw0
            go_wp2_with fail
            obtain ⟨W3, hW3⟩ : ∃ W3, (wr.alloc (.cells #[.int .i64 3, .int .i64 x2, .int .i64 x3] 49)).alloc (.cells #[.int .i64 A.bb, .int .i64 A.be, .int .i64 A.ub, .int .i64 A.ue] 45) = W3 := ⟨_, rfl⟩
            rw [hW3] at sv t0 t1 t2 t3 t4 t5 t6
            rw [hW3]
            have sd := sv.quiet (Below.refl _ _).drew
            have hrf : ∀ W, _ := fun W => refFits_any A x2 W
            simp only [encAc] at hrf
            have HRF := Lib.hid hrf
            clear hrf sv hW3 q0 q1 q2 q3 cell0 cell1 cell2
            go_region_held3 (fun w' => w'.cell? ⟨r, 0, none⟩ = some (.int .i64 A.bb) ∧ w'.cell? ⟨r, 1, none⟩ = some (.int .i64 A.be) ∧ w'.cell? ⟨r, 2, none⟩ = some (.int .i64 A.ub) ∧ w'.cell? ⟨r, 3, none⟩ = some (.int .i64 A.ue) ∧ w'.cell? ⟨wr.heap.size, 1, none⟩ = some (.int .i64 x2)) (go_keep) (first
              | (go_at_call 18; refine (Sv.fits (w0 := w) (R := A) (V := A) (A := A) (r := r) (v := wr.heap.size + 1) (x := wr.heap.size) (X := (3, x2, x3)) ?_ x2).mono ?_; assumption; rintro e W5 ⟨rfl, s5⟩; obtain ⟨⟨k0, k1, k2, k3⟩, _, ⟨k4, k5, k6⟩⟩ := s5.cells)
              | (go_at_call 24; refine (HRF.out _).mono ?_; rintro e W5 ⟨rfl, hb5⟩; have s5 := Sv.quiet (w0 := w) (R := A) (V := A) (A := A) (b := b) (r := r) (v := wr.heap.size + 1) (x := wr.heap.size) (X := (3, x2, x3)) (by assumption) hb5; obtain ⟨⟨k0, k1, k2, k3⟩, _, ⟨k4, k5, k6⟩⟩ := s5.cells))
            all_goals
              have s6 := s5
              clear s5 sd HRF
              obtain ⟨_, ⟨c4, c5, c6, c7⟩, _⟩ := s6.cells
              obtain ⟨_, ⟨f0, f1, f2, f3⟩⟩ := s6.thaw
              have hov : ∀ W, _ := fun W => refOver_any A W s6.sy.sc.ok
              simp only [encAc] at hov
              have HOV := Lib.hid hov
              clear hov
              go_wp2_with fail
              have s7 := s6.setR A
              clear s6 c4 c5 c6 c7 f0 f1 f2 f3
              refine (HOV.out _).mono ?_
              rintro e W7 ⟨rfl, hb7⟩
              have s8 := s7.quiet hb7
              obtain ⟨⟨c0, c1, c2, c3⟩, _, _⟩ := s8.cells
              clear s7 hb7 HOV
              go_wp2_with fail
              refine (s8.used _ _ (by simp)).mono ?_
              rintro e W8 ⟨rfl, s9⟩
              clear s8 c0 c1 c2 c3
              go_wp2_with fail
              refine (s9.over _ _ (by simp)).mono ?_
              rintro e W9 ⟨rfl, s10⟩
              clear s9
              go_wp2_with fail
              refine (s10.budget _ _ (by rw [HAB.out, HAE.out]; simp)).mono ?_
              rintro e W10 ⟨rfl, s11⟩
              clear s10
              go_wp2_with fail
              go_roundw
              case rel => exact ⟨j + 1, b, A, by omega, by go_num, rfl, HAB.out, HAE.out, s11.sy⟩
              case measure => simp [intOf]; omega
          · have e0 : (x1 == 0) = false := by simpa using hw0
            have e1 : (x1 == 1) = false := by simpa using hw1
            have e2 : (x1 == 2) = false := by simpa using hw2
            have e3 : (x1 == 3) = false := by simpa using hw3
            clear hw0 hw1 hw2 hw3
            go_wp2_with fail
            refine sv.copy.mono ?_
            rintro e W3 ⟨b', hbb, rfl, s4, s5⟩
            clear sv q0 q1 q2 q3 t0 t1 t2 t3 t4 t5 t6 cell0 cell1 cell2 e0 e1 e2 e3
            go_wp2_with fail
            refine (s4.addO s5 hbb 100 (by decide) (by decide)).mono ?_
            rintro e W4 ⟨A3, e3, rfl, s4', s5'⟩
            obtain ⟨⟨c0, c1, c2, c3⟩, ⟨c4, c5, c6, c7⟩, ⟨c8, c9, c10⟩⟩ := s4'.cells
            clear s4 s5
            go_wp2_with fail
            refine (s4'.remO s5' hbb x2 hx3 hx4).mono ?_
            rintro e W5 ⟨e4, rfl, s6⟩
            clear s4' s5' c0 c1 c2 c3 c4 c5 c6 c7 c8 c9 c10
            obtain ⟨_, ⟨c4, c5, c6, c7⟩, _⟩ := s6.cells
            obtain ⟨_, ⟨f0, f1, f2, f3⟩⟩ := s6.thaw
            have hov : ∀ W, _ := fun W => refOver_any A W s6.sy.sc.ok
            simp only [encAc] at hov
            have HOV := Lib.hid hov
            clear hov
            go_wp2_with fail
            have s7 := s6.setR A
            clear s6 c4 c5 c6 c7 f0 f1 f2 f3
            refine (HOV.out _).mono ?_
            rintro e W7 ⟨rfl, hb7⟩
            have s8 := s7.quiet hb7
            obtain ⟨⟨c0, c1, c2, c3⟩, _, _⟩ := s8.cells
            clear s7 hb7 HOV
            go_wp2_with fail
            refine (s8.used _ _ (by simp)).mono ?_
            rintro e W8 ⟨rfl, s9⟩
            clear s8 c0 c1 c2 c3
            go_wp2_with fail
            refine (s9.over _ _ (by simp)).mono ?_
            rintro e W9 ⟨rfl, s10⟩
            clear s9
            go_wp2_with fail
            refine (s10.budget _ _ (by rw [HAB.out, HAE.out]; simp)).mono ?_
            rintro e W10 ⟨rfl, s11⟩
            clear s10
            go_wp2_with fail
            go_roundw
            case rel => exact ⟨j + 1, b', A, by omega, by go_num, rfl, HAB.out, HAE.out, s11.sy⟩
            case measure => simp [intOf]; omega
        · obtain rfl : j = l.length := by omega
          have hbel := s3.sc.bel
          clear hlt hj s3
          go_wp2_with fail
          refine (known_any _).mono ?_
          rintro e w3 ⟨rfl, b3⟩
          go_wp2_with fail
          go_ret
          exact ⟨rfl, hbel.trans (b3.mono hbel.size)⟩
  · have h6 : 100 < l.length := by omega
    clear h5
    go_enter Try.func6, Try.ntmps6
    go_wp2_with fail
    refine (known_any _).mono ?_
    rintro e w3 ⟨rfl, b3⟩
    go_wp2_with fail
    go_ret
    exact ⟨rfl, b3⟩
end Go.Proofs.Ytnfehdcinmgnjaa
