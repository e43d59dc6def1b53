/- The program's Note: the items. -/
import Derived.Test.YtjiefmihodfgpaaDoorStatG
namespace Go.Proofs.YtjiefmihodfgpaaDoor
set_option linter.unusedVariables false
open Go.RowKit Go.Maps Go.Sort

/-- A slice of items with these marks, in no block b. -/
def ItemsAt (w : World) (b : Nat) (p : Option Addr) (ms : List Int) : Prop :=
  ∀ i m, ms[i]? = some m → ∃ blk off q n c u d, p = some ⟨blk, off, none⟩ ∧ blk < w.heap.size ∧ blk ≠ b ∧
    w.cell? ⟨blk, off + i * 4, none⟩ = some (.int .i64 m) ∧ w.cell? ⟨blk, off + i * 4 + 1, none⟩ = some (.slice q n c) ∧ w.cell? ⟨blk, off + i * 4 + 2, none⟩ = some (.int .u64 u) ∧ w.cell? ⟨blk, off + i * 4 + 3, none⟩ = some (.int .u64 d)
theorem ItemsAt.grown {w w' : World} {b : Nat} {p : Option Addr} {ms : List Int} (h : ItemsAt w b p ms) (hg : w.grownBy w' (some b)) : ItemsAt w' b p ms := by
  intro i m hm
  obtain ⟨blk, off, q, n, c, u, d, hp, hb, hne, h1, h2, h3, h4⟩ := h i m hm
  have key : ∀ o x, w.cell? ⟨blk, o, none⟩ = some x → w'.cell? ⟨blk, o, none⟩ = some x := fun o x hx => by
    rw [World.cell?_of_block (hg.block blk hb (by intro e; injection e with e; exact hne e))]
    exact hx
  exact ⟨blk, off, q, n, c, u, d, hp, Nat.lt_of_lt_of_le hb hg.size, hne, key _ _ h1, key _ _ h2, key _ _ h3, key _ _ h4⟩
theorem ItemsAt.below {w w' : World} {b : Nat} {p : Option Addr} {ms : List Int} (h : ItemsAt w b p ms) (hb : Below w.heap.size w w') : ItemsAt w' b p ms := h.grown (only_of_below hb _)

set_option maxHeartbeats 1000000 in
theorem odd_any (m u d : Int) (q : Option Addr) (n c : Nat) (w : World) :
    Calls Tryd.prog 34 #[.agg #[.int .i64 m, .slice q n c, .int .u64 u, .int .u64 d]] w fun e w' => e = .returned (.bool (markBad m)) ∧ Below w.heap.size w w' := by
  have hb : Below w.heap.size w (w.alloc (.cells #[.int .i64 m, .slice q n c, .int .u64 u, .int .u64 d] 66)) := (Below.refl _ _).alloc (Nat.le_refl _) _
  rcases Bool.eq_false_or_eq_true (decide (m < 0)) with h | h
  · have hm : markBad m = true := by unfold markBad; rw [h]; rfl
    rw [hm]
    have h2 : m < 0 := by simpa using h
    clear hm h
    go_enter Tryd.func34, Tryd.ntmps34
    go_wp2
    go_ret
    exact ⟨rfl, hb⟩
  · have h2 : ¬ m < 0 := by simpa using h
    rcases Bool.eq_false_or_eq_true (decide (2 < m)) with h3 | h3
    all_goals
      have hm : markBad m = decide (2 < m) := by unfold markBad; rw [h]; rfl
      rw [hm, h3]
      first
        | (have h4 : 2 < m := by simpa using h3)
        | (have h4 : ¬ 2 < m := by simpa using h3)
      clear hm h h3
      go_enter Tryd.func34, Tryd.ntmps34
      go_wp2
      go_ret
      exact ⟨by simp, hb⟩

set_option maxHeartbeats 1000000 in
theorem index_any (b : Nat) (p : Option Addr) (cap : Nat) (ms : List Int) (hl : ms.length ≤ 1000) (w : World) (hI : ItemsAt w b p ms) :
    Calls Tryd.prog 53 #[.slice p ms.length cap, .func (.func 34) #[] #[]] w fun e w' => (∃ r : Int, e = .returned (.int .i64 r) ∧ decide (0 ≤ r) = ms.any markBad) ∧ Below w.heap.size w w' := by
  have HI := Lib.hid hI
  clear hI
  go_enter Tryd.func53, Tryd.ntmps53
  go_wp2_with fail
  go_loopw [5, 8] (fun _ i wr => ∃ k : Nat, k ≤ ms.length ∧ i = .int .i64 k ∧ Hid (∀ x ∈ ms.take k, markBad x = false) ∧ Below w.heap.size w wr) (fun _ i _ => ms.length - (intOf i).toNat)
  case atStart => exact ⟨0, by omega, rfl, by intro x hx; simp at hx, Below.refl _ _⟩
  case round =>
    obtain ⟨k, hk, rfl, HN, hbl⟩ := hrel
    by_cases hlt : k < ms.length
    · obtain ⟨m, hm⟩ : ∃ m, ms[k]? = some m := ⟨ms[k], List.getElem?_eq_getElem hlt⟩
      obtain ⟨blk, off, q, n, c, u, d, rfl, hblk, hne, c0, c1, c2, c3⟩ := HI.out.below hbl k m hm
      have HO := Lib.hid (fun w => odd_any m u d q n c w)
      rcases Bool.eq_false_or_eq_true (markBad m) with hb | hb
      · have ha : decide (0 ≤ (k : Int)) = ms.any markBad := by
          rw [decide_eq_true (by omega)]
          exact (List.any_eq_true.2 ⟨m, List.mem_of_getElem? hm, hb⟩).symm
        have HA := Lib.hid ha
        rw [hb] at HO
        clear hm ha hb
        go_wp2_with (go_at_call 34; refine (HO.out _).mono ?_; rintro e w2 ⟨rfl, hb2⟩)
        go_ret
        exact ⟨⟨_, rfl, HA.out⟩, hbl.trans (hb2.mono hbl.size)⟩
      · have HN2 : Hid (∀ x ∈ ms.take (k + 1), markBad x = false) := by
          intro y hy
          rw [List.take_add_one, hm] at hy
          rcases List.mem_append.1 hy with hy | hy
          · exact HN.out y hy
          · simp at hy; rw [hy]; exact hb
        rw [hb] at HO
        clear hm hb
        go_wp2_with (go_at_call 34; refine (HO.out _).mono ?_; rintro e w2 ⟨rfl, hb2⟩)
        go_roundw
        case rel => exact ⟨k + 1, by omega, by go_num, HN2, hbl.trans (hb2.mono hbl.size)⟩
        case measure => simp [intOf]; omega
    · have ha : decide (0 ≤ (-1 : Int)) = ms.any markBad := by
        rw [decide_eq_false (by omega)]
        symm
        rw [List.any_eq_false]
        intro x hx
        have := HN.out x (by rw [List.take_of_length_le (by omega)]; exact hx)
        simp [this]
      have HA := Lib.hid ha
      clear ha
      go_wp2_with fail
      go_ret
      exact ⟨⟨_, rfl, HA.out⟩, hbl⟩
set_option maxHeartbeats 1000000 in
theorem contains_any (b : Nat) (p : Option Addr) (cap : Nat) (ms : List Int) (hl : ms.length ≤ 1000) (w : World) (hI : ItemsAt w b p ms) :
    Calls Tryd.prog 35 #[.slice p ms.length cap, .func (.func 34) #[] #[]] w fun e w' => e = .returned (.bool (ms.any markBad)) ∧ Below w.heap.size w w' := by
  have HC := Lib.hid (index_any b p cap ms hl w hI)
  clear hI
  generalize ms.any markBad = B at *
  go_enter Tryd.func35, Tryd.ntmps35
  go_wp2_with fail
  refine HC.out.mono ?_
  rintro e w2 ⟨⟨r, rfl, hr⟩, hb2⟩
  clear HC
  subst hr
  go_wp2_with fail
  go_ret
  exact ⟨rfl, hb2⟩
end Go.Proofs.YtjiefmihodfgpaaDoor
