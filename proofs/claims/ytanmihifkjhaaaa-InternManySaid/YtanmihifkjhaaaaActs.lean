/- Calls that came in (two numbers and a string); few. -/
import Derived.Test.YtanmihifkjhaaaaIntK
namespace Go.Proofs.Ytanmihifkjhaaaa
set_option linter.unusedVariables false
open Go.RowKit Go.Maps Go.Sort

abbrev Ac := Int × Int × ByteArray
def ActsOf (w : World) (p : Option Addr) (l : List Ac) : Prop :=
  ∀ i x, l[i]? = some x → ∃ blk off, p = some ⟨blk, off, none⟩ ∧ blk < w.heap.size ∧ w.cell? ⟨blk, off + i * 3, none⟩ = some (.int .i64 x.1) ∧ w.cell? ⟨blk, off + i * 3 + 1, none⟩ = some (.int .i64 x.2.1) ∧ w.cell? ⟨blk, off + i * 3 + 2, none⟩ = some (.string x.2.2)
theorem ActsOf.below {w w' : World} {p : Option Addr} {l : List Ac} (h : ActsOf w p l) (hb : Below w.heap.size w w') : ActsOf w' p l := by
  intro i x hx
  obtain ⟨blk, off, hp, hlt, h0, h1, h2⟩ := h i x hx
  exact ⟨blk, off, hp, Nat.lt_of_lt_of_le hlt hb.size, (hb.cell (p := ⟨blk, _, none⟩) hlt).trans h0, (hb.cell (p := ⟨blk, _, none⟩) hlt).trans h1, (hb.cell (p := ⟨blk, _, none⟩) hlt).trans h2⟩
def fewR (L : List Ac) : Bool := decide (L.length ≤ 60) && L.all (fun X => decide (X.2.2.size ≤ 100))
def FewP (L : List Ac) (w : World) (e : Ending) (w' : World) : Prop := e = .returned (.bool (fewR L)) ∧ w = w'
theorem fewR_true {L : List Ac} (h : fewR L = true) : L.length ≤ 60 ∧ ∀ X ∈ L, X.2.2.size ≤ 100 := by
  unfold fewR at h
  rw [Bool.and_eq_true, decide_eq_true_eq, List.all_eq_true] at h
  exact ⟨h.1, fun X hX => by simpa using h.2 X hX⟩
theorem FewP.many {L : List Ac} {w : World} {e : Ending} (h : e = .returned (.bool false)) (h1 : ¬ L.length ≤ 60) : FewP L w e w :=
  ⟨by rw [h]; unfold fewR; rw [decide_eq_false h1]; rfl, rfl⟩
theorem FewP.long {L : List Ac} {w : World} {e : Ending} {k : Nat} {X : Ac} (h : e = .returned (.bool false)) (hX : L[k]? = some X) (h1 : ¬ X.2.2.size ≤ 100) : FewP L w e w :=
  ⟨by
    rw [h]
    have : fewR L = false := by
      rcases Bool.eq_false_or_eq_true (fewR L) with hf | hf
      · exact absurd ((fewR_true hf).2 X (List.mem_of_getElem? hX)) h1
      · exact hf
    rw [this], rfl⟩
theorem FewP.yes {L : List Ac} {w : World} {e : Ending} (h : e = .returned (.bool true)) (h1 : L.length ≤ 60) (h2 : ∀ X ∈ L, X.2.2.size ≤ 100) : FewP L w e w :=
  ⟨by
    rw [h]
    have : fewR L = true := by
      unfold fewR
      rw [Bool.and_eq_true, decide_eq_true_eq, List.all_eq_true]
      exact ⟨h1, fun X hX => by simpa using h2 X hX⟩
    rw [this], rfl⟩
set_option maxHeartbeats 2000000 in
theorem few_any (q : Option Addr) (cap : Nat) (L : List Ac) (w : World) (h : ActsOf w q L) :
    Calls Try.prog 18 #[.slice q L.length cap] w (FewP L w) := by
  have HR := Lib.hid h
  clear h
  go_enter Try.func18, Try.ntmps18
  go_wp2_with fail
  go_loop [3] (fun i => ∃ k : Nat, k ≤ L.length ∧ k ≤ 61 ∧ i = .int .i64 k ∧ Hid (∀ X ∈ L.take k, X.2.2.size ≤ 100)) (fun i => 62 - (intOf i).toNat)
  case atStart => exact ⟨0, by omega, by omega, rfl, by intro x hx; simp at hx⟩
  case round =>
    obtain ⟨k, hk, hk2, rfl, HN⟩ := hrel
    by_cases hlt : k < L.length
    · by_cases h41 : k < 61
      · obtain ⟨X, hX⟩ : ∃ X, L[k]? = some X := ⟨L[k], List.getElem?_eq_getElem hlt⟩
        obtain ⟨blk, off, rfl, hb, _, _, c2⟩ := HR.out k X hX
        by_cases h20 : X.2.2.size ≤ 100
        · have HN2 : Hid (∀ X ∈ L.take (k + 1), X.2.2.size ≤ 100) := by
            intro y hy
            rw [List.take_add_one, hX] at hy
            rcases List.mem_append.1 hy with hy | hy
            · exact HN.out y hy
            · simp at hy; rw [hy]; exact h20
          clear hX
          go_wp2_with fail
          go_round
          case rel => exact ⟨k + 1, by omega, by omega, by go_num, HN2⟩
          case measure => simp [intOf]; omega
        · have h21 : 100 < X.2.2.size := by omega
          have HX := Lib.hid hX
          have H20 := Lib.hid h20
          clear hX h20
          go_wp2_with fail
          go_ret
          exact FewP.long rfl HX.out H20.out
      · have h42 : 60 < L.length := by omega
        have h43 : ¬ ((L.length : Int) ≤ 60) := by omega
        obtain rfl : k = 61 := by omega
        go_wp2_with fail
        go_ret
        exact FewP.many (by simp) (by omega)
    · obtain rfl : k = L.length := by omega
      have HN2 : Hid (∀ X ∈ L, X.2.2.size ≤ 100) := fun X hX => HN.out X (by rw [List.take_of_length_le (Nat.le_refl _)]; exact hX)
      clear HN
      by_cases h40 : L.length ≤ 60
      · have h43 : (L.length : Int) ≤ 60 := by omega
        go_wp2_with fail
        go_ret
        exact FewP.yes (by simp) h40 HN2.out
      · have h43 : ¬ ((L.length : Int) ≤ 60) := by omega
        go_wp2_with fail
        go_ret
        exact FewP.many (by simp) h40
end Go.Proofs.Ytanmihifkjhaaaa
