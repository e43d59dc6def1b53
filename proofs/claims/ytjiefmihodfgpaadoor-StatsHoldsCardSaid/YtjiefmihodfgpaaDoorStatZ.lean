/- Responses between the walks of notes and holds; few, Of. -/
import Derived.Test.YtjiefmihodfgpaaDoorStatT
import Derived.Test.YtjiefmihodfgpaaDoorStatX
import Derived.Test.YtjiefmihodfgpaaDoorOpenR
namespace Go.Proofs.YtjiefmihodfgpaaDoor
set_option linter.unusedVariables false
open Go.RowKit Go.Maps Go.Sort

/-- Responses at their places, in no block c. -/
def RespsIn (w : World) (c : Nat) (q : Option Addr) (L : List (Rp × List Int)) : Prop :=
  ∀ i X, L[i]? = some X → ∃ blk off, q = some ⟨blk, off, none⟩ ∧ blk < w.heap.size ∧ blk ≠ c ∧ (∀ j, j < 6 → w.cell? ⟨blk, off + i * 6 + j, none⟩ = (rcs X.1 X.2.length)[j]?) ∧ ItemsAt w c X.1.p X.2 ∧ X.1.cnt ≤ 9223372036854775807
theorem RespsIn.grown {w w' : World} {c : Nat} {q : Option Addr} {L : List (Rp × List Int)} (h : RespsIn w c q L) (hg : w.grownBy w' (some c)) : RespsIn w' c q L := by
  intro i X hX
  obtain ⟨blk, off, hq, hb, hne, h1, h2, h3⟩ := h i X hX
  refine ⟨blk, off, hq, Nat.lt_of_lt_of_le hb hg.size, hne, fun j hj => ?_, h2.grown hg, h3⟩
  rw [World.cell?_of_block (hg.block blk hb (by intro e; injection e with e; exact hne e))]
  exact h1 j hj
theorem RespsIn.below {w w' : World} {c : Nat} {q : Option Addr} {L : List (Rp × List Int)} (h : RespsIn w c q L) (hb : Below w.heap.size w w') : RespsIn w' c q L := h.grown (only_of_below hb _)
theorem RespsIn.of_at {w : World} {c : Nat} {q : Option Addr} {L : List (Rp × List Int)} (h : RespsAt w q L) (hc : w.heap.size ≤ c) : RespsIn w c q L := by
  intro i X hX
  obtain ⟨blk, off, hq, hb, h1, h2, h3⟩ := h i X hX
  exact ⟨blk, off, hq, hb, by omega, h1, h2 c hc, h3⟩
def fewR (L : List (Rp × List Int)) : Bool := decide (L.length ≤ 40) && L.all (fun X => decide (X.2.length ≤ 20))

def FewP (L : List (Rp × List Int)) (w : World) (e : Ending) (w' : World) : Prop := e = .returned (.bool (fewR L)) ∧ w = w'
theorem fewR_true {L : List (Rp × List Int)} (h : fewR L = true) : L.length ≤ 40 ∧ ∀ X ∈ L, X.2.length ≤ 20 := by
  unfold fewR at h
  rw [Bool.and_eq_true, decide_eq_true_eq, List.all_eq_true] at h
  exact ⟨h.1, fun X hX => by simpa using h.2 X hX⟩
theorem FewP.many {L : List (Rp × List Int)} {w : World} {e : Ending} (h : e = .returned (.bool false)) (h1 : ¬ L.length ≤ 40) : FewP L w e w :=
  ⟨by rw [h]; unfold fewR; rw [decide_eq_false h1]; rfl, rfl⟩
theorem FewP.long {L : List (Rp × List Int)} {w : World} {e : Ending} {k : Nat} {X : Rp × List Int} (h : e = .returned (.bool false)) (hX : L[k]? = some X) (h1 : ¬ X.2.length ≤ 20) : FewP L w e w :=
  ⟨by
    rw [h]
    have : fewR L = false := by
      rcases Bool.eq_false_or_eq_true (fewR L) with hf | hf
      · exact absurd ((fewR_true hf).2 X (List.mem_of_getElem? hX)) h1
      · exact hf
    rw [this], rfl⟩
theorem FewP.yes {L : List (Rp × List Int)} {w : World} {e : Ending} (h : e = .returned (.bool true)) (h1 : L.length ≤ 40) (h2 : ∀ X ∈ L, X.2.length ≤ 20) : FewP L w e w :=
  ⟨by
    rw [h]
    have : fewR L = true := by
      unfold fewR
      rw [Bool.and_eq_true, decide_eq_true_eq, List.all_eq_true]
      exact ⟨h1, fun X hX => by simpa using h2 X hX⟩
    rw [this], rfl⟩
set_option maxHeartbeats 2000000 in
theorem few_any (q : Option Addr) (cap : Nat) (L : List (Rp × List Int)) (w : World) (h : RespsAt w q L) :
    Calls Tryd.prog 14 #[.slice q L.length cap] w (FewP L w) := by
  have HR := Lib.hid h
  clear h
  go_enter Tryd.func14, Tryd.ntmps14
  go_wp2_with fail
  go_loop [3] (fun i => ∃ k : Nat, k ≤ L.length ∧ k ≤ 41 ∧ i = .int .i64 k ∧ Hid (∀ X ∈ L.take k, X.2.length ≤ 20)) (fun i => 42 - (intOf i).toNat)
  case atStart => exact ⟨0, by omega, by omega, rfl, by intro x hx; simp at hx⟩
  case round =>
    obtain ⟨k, hk, hk2, rfl, HN⟩ := hrel
    by_cases hlt : k < L.length
    · by_cases h41 : k < 41
      · obtain ⟨X, hX⟩ : ∃ X, L[k]? = some X := ⟨L[k], List.getElem?_eq_getElem hlt⟩
        obtain ⟨blk, off, rfl, hb, hc, _, _⟩ := HR.out k X hX
        have c2 : w.cell? ⟨blk, off + k * 6 + 2, none⟩ = some (.slice X.1.p X.2.length X.1.cap) := hc 2 (by decide)
        by_cases h20 : X.2.length ≤ 20
        · have HN2 : Hid (∀ X ∈ L.take (k + 1), X.2.length ≤ 20) := by
            intro y hy
            rw [List.take_add_one, hX] at hy
            rcases List.mem_append.1 hy with hy | hy
            · exact HN.out y hy
            · simp at hy; rw [hy]; exact h20
          clear hc hX
          go_wp2_with fail
          go_round
          case rel => exact ⟨k + 1, by omega, by omega, by go_num, HN2⟩
          case measure => simp [intOf]; omega
        · have h21 : 20 < X.2.length := by omega
          have HX := Lib.hid hX
          have H20 := Lib.hid h20
          clear hc hX h20
          go_wp2_with fail
          go_ret
          exact FewP.long rfl HX.out H20.out
      · have h42 : 40 < L.length := by omega
        have h43 : ¬ ((L.length : Int) ≤ 40) := by omega
        obtain rfl : k = 41 := by omega
        go_wp2_with fail
        go_ret
        exact FewP.many (by simp) (by omega)
    · obtain rfl : k = L.length := by omega
      have HN2 : Hid (∀ X ∈ L, X.2.length ≤ 20) := fun X hX => HN.out X (by rw [List.take_of_length_le (Nat.le_refl _)]; exact hX)
      clear HN
      by_cases h40 : L.length ≤ 40
      · have h43 : (L.length : Int) ≤ 40 := by omega
        go_wp2_with fail
        go_ret
        exact FewP.yes (by simp) h40 HN2.out
      · have h43 : ¬ ((L.length : Int) ≤ 40) := by omega
        go_wp2_with fail
        go_ret
        exact FewP.many (by simp) (by omega)
end Go.Proofs.YtjiefmihodfgpaaDoor
