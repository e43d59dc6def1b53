/- The reference's Right and Note. -/
import Derived.Test.YtjiefmihodfgpaaDoorStatO
import Derived.Test.YtjiefmihodfgpaaDoorStatJ
import Derived.Deep.RegionHeld3
namespace Go.Proofs.YtjiefmihodfgpaaDoor
set_option linter.unusedVariables false
open Go.RowKit Go.Maps Go.Sort

/-- A list of 16 counts that reads. -/
structure LsAt (w : World) (b : Nat) (v : Value) (l : List Int) : Prop where
  reads : Reads w v (u64s l)
  ne : ∀ g o cap, v = .slice (some ⟨g, o, none⟩) 16 cap → g ≠ b
  len : l.length = 16
  isu : ∀ x ∈ l, isU x
/-- Within the reference's Note: the box and the items. -/
structure Sr (w0 w : World) (b r : Nat) (R : Array Value) (p : Option Addr) (ms : List Int) : Prop where
  box : Blk w r 40 R
  items : ItemsAt w b p ms
  bel : Below w0.heap.size w0 w
  lt : b < w.heap.size
section
variable {w0 w w' : World} {b r : Nat} {R : Array Value} {p : Option Addr} {ms l l' : List Int} {v : Value}
theorem LsAt.below (s : LsAt w b v l) (hb : Below w.heap.size w w') : LsAt w' b v l := ⟨s.reads.below hb, s.ne, s.len, s.isu⟩
theorem Sr.quiet (s : Sr w0 w b r R p ms) (hb : Below w.heap.size w w') : Sr w0 w' b r R p ms :=
  ⟨Blk.below s.box hb (Blk.lt s.box), s.items.below hb, s.bel.trans (hb.mono s.bel.size), Nat.lt_of_lt_of_le s.lt hb.size⟩
theorem Sr.raise (s : Sr w0 w b r R p ms) (h : LsAt w b v l) (j : Nat) (n : Int) (hj : j < 16) (hn : 0 ≤ n) (hn2 : n ≤ 9223372036854775807) (l' : List Int) (hl : raiseL l j n = l') :
    Calls Tryd.prog 54 #[v, .int .i64 j, .int .i64 n] w fun e w' => ∃ v', e = .returned v' ∧ LsAt w' b v' l' ∧ Sr w0 w' b r R p ms := by
  subst hl
  refine (refRaise_any v l j n h.len hj hn hn2 h.isu w h.reads).mono ?_
  rintro e w' ⟨v', rfl, ho, hb⟩
  refine ⟨v', rfl, ⟨reads_of_own ho (by rw [raiseL_len, h.len]; decide), fun g o cap e => by have h2 := (ho.lt g (by rw [e]; rfl)).1; have h3 := s.lt; omega, by rw [raiseL_len, h.len], raiseL_is h.isu j ⟨hn, by omega⟩⟩, s.quiet hb⟩
theorem Sr.cells {R : Rp} {n : Nat} (s : Sr w0 w b r (rcs R n) p ms) :
    w.cell? ⟨r, 0, none⟩ = some (.int .i64 R.op) ∧ w.cell? ⟨r, 1, none⟩ = some (.int .i64 R.err) ∧ w.cell? ⟨r, 2, none⟩ = some (.slice R.p n R.cap) ∧ w.cell? ⟨r, 4, none⟩ = some (.int .i64 R.cnt) :=
  ⟨Blk.cell s.box 0, Blk.cell s.box 1, Blk.cell s.box 2, Blk.cell s.box 4⟩
end

section
variable (b : Nat) (ms : List Int) (R : Rp) (hl : ms.length ≤ 1000) (w : World) (hI : ItemsAt w b R.p ms) (hlt : b < w.heap.size)
include hl hI hlt
set_option maxHeartbeats 4000000 in
set_option maxRecDepth 100000 in
theorem right_any :
    Calls Tryd.prog 41 #[.agg (rcs R ms.length)] w fun e w' => e = .returned (.bool (rightR R.op R.cnt ms)) ∧ Below w.heap.size w w' := by
  have s0 : Sr w (w.alloc (.cells (rcs R ms.length) 40)) b w.heap.size (rcs R ms.length) R.p ms :=
    ⟨Blk.new _ _ _, hI.below ((Below.refl _ _).alloc (Nat.le_refl _) _), (Below.refl _ _).alloc (Nat.le_refl _) _, by simp; omega⟩
  clear hI
  obtain ⟨op, err, ver, cnt, p, cap, q, n2, c2⟩ := R
  simp only at *
  obtain ⟨W, hW⟩ : ∃ W, w.alloc (.cells (rcs ⟨op, err, ver, cnt, p, cap, q, n2, c2⟩ ms.length) 40) = W := ⟨_, rfl⟩
  rw [hW] at s0
  have hW : w.alloc (.cells #[.int .i64 op, .int .i64 err, .slice p ms.length cap, .int .u64 ver, .int .i64 cnt, .slice q n2 c2] 40) = W := hW
  obtain ⟨B, hB⟩ : ∃ B, rightR op cnt ms = B := ⟨_, rfl⟩
  have HB := Lib.hid hB
  rw [hB]
  clear hB
  obtain ⟨c0, c1, c3, c4⟩ := s0.cells
  go_enter Tryd.func41, Tryd.ntmps41
  go_wp2_with fail
  clear hW
  go_loop [3] (fun i => ∃ k : Nat, k ≤ ms.length ∧ i = .int .i64 k ∧ Hid (∀ x ∈ ms.take k, markBad x = false)) (fun i => ms.length - (intOf i).toNat)
  case atStart => exact ⟨0, by omega, rfl, by intro x hx; simp at hx⟩
  case round =>
    obtain ⟨k, hk, rfl, HN⟩ := hrel
    by_cases hlt : k < ms.length
    · obtain ⟨m, hm⟩ : ∃ m, ms[k]? = some m := ⟨ms[k], List.getElem?_eq_getElem hlt⟩
      obtain ⟨blk, off, vq, vn, vc, u, d, rfl, hblk, hne, x0, x1, x2, x3⟩ := s0.items k m hm
      have hbad : markBad m = true → B = false := fun h => by
        rw [← HB.out]
        unfold rightR
        rw [show ms.any markBad = true from List.any_eq_true.2 ⟨m, List.mem_of_getElem? hm, h⟩]
        simp
      by_cases m1 : m < 0
      · have e : B = false := hbad (by unfold markBad; rw [decide_eq_true m1]; rfl)
        have hbel := s0.bel
        subst e
        clear hbad hm HB s0
        go_wp2_with fail
        go_ret
        exact ⟨rfl, hbel⟩
      · by_cases m2 : 2 < m
        · have e : B = false := hbad (by unfold markBad; rw [decide_eq_true m2]; simp)
          have hbel := s0.bel
          subst e
          clear hbad hm HB s0
          go_wp2_with fail
          go_ret
          exact ⟨rfl, hbel⟩
        · have HN2 : Hid (∀ x ∈ ms.take (k + 1), markBad x = false) := by
            intro y hy
            rw [List.take_add_one, hm] at hy
            rcases List.mem_append.1 hy with hy | hy
            · exact HN.out y hy
            · simp at hy; rw [hy]; unfold markBad; rw [decide_eq_false m1, decide_eq_false m2]; rfl
          clear hbad hm
          go_wp2_with fail
          go_round
          case rel => exact ⟨k + 1, by omega, by go_num, HN2⟩
          case measure => simp [intOf]; omega
    · have ha : ms.any markBad = false := by
        rw [List.any_eq_false]
        intro x hx
        have := HN.out x (by rw [List.take_of_length_le (by omega)]; exact hx)
        simp [this]
      have hB : B = (decide (1 ≤ op) && decide (op ≤ 15) && decide (0 ≤ cnt)) := by
        rw [← HB.out]; unfold rightR; rw [ha]; simp
      have hbel := s0.bel
      clear ha HB HN s0
      by_cases h1 : 1 ≤ op
      · by_cases h2 : op ≤ 15
        · by_cases h3 : 0 ≤ cnt
          · have e : B = true := by rw [hB]; simp [h1, h2, h3]
            subst e
            clear hB
            go_wp2_with fail
            go_ret
            exact ⟨rfl, hbel⟩
          · have e : B = false := by rw [hB]; simp [h3]
            subst e
            clear hB
            go_wp2_with fail
            go_ret
            exact ⟨rfl, hbel⟩
        · have e : B = false := by rw [hB]; simp [h2]
          subst e
          clear hB
          go_wp2_with fail
          go_ret
          exact ⟨rfl, hbel⟩
      · have e : B = false := by rw [hB]; simp [h1]
        subst e
        clear hB
        go_wp2_with fail
        go_ret
        exact ⟨rfl, hbel⟩
end
end Go.Proofs.YtjiefmihodfgpaaDoor
