/- Cloning and searching a slice of ints that reads; cloning names. -/
import Derived.Test.YthngkimncdpekaaInsert
namespace Go.Proofs.Ythngkimncdpekaa
set_option linter.unusedVariables false
open Go.RowKit Go.Maps Go.Sort

theorem clone_reads (v : Value) (l : List Int) (w : World) (h : Reads w v (i64s l)) (hl : l.length ≤ 1000000) :
    Calls Try.prog 60 #[v] w fun e w' => ∃ v', e = .returned v' ∧ w'.ownsRow w.heap.size 3 1 v' l.length (i64s l) ∧ Below w.heap.size w w' := by
  obtain ⟨p, cap, rfl, _, h2⟩ := h
  rw [List.length_map] at h2 ⊢
  cases l with
  | nil =>
    cases p with
    | none => exact (Try.slices_Clone_int_nil 0 cap w).mono fun e w' ⟨h1, h2⟩ => ⟨_, h1, World.ownsRow_nil _ _ _ _, by rw [h2]; exact Below.refl _ _⟩
    | some a => exact (Try.slices_Clone_int_zero a cap w).mono fun e w' ⟨v', h1, h2, _, h3⟩ => ⟨v', h1, h2, h3⟩
  | cons x r =>
    rcases h2 with h0 | ⟨blk, off, rfl, hblk, hc, hcell⟩
    · cases h0
    · refine (Try.slices_Clone_int blk off (x :: r).length cap (x :: r) w (Nat.le_refl _) (by omega) (fun j hj => hcell j _ ?_)).mono ?_
      · rw [List.getElem?_map, List.getD_eq_getElem?_getD, List.getElem?_eq_getElem hj]; rfl
      · rintro e w' ⟨v', h1, h2, _, h3⟩
        rw [List.take_length] at h2
        exact ⟨v', h1, h2, h3⟩
theorem search_reads (v : Value) (l : List Int) (x : Int) (w : World) (h : Reads w v (i64s l)) (hl : l.length ≤ 1000000) (hs : l.Pairwise (· ≤ ·)) :
    Calls Try.prog 90 #[v, .int .i64 x] w fun e w' => (∃ c : Bool, e = .returned (.tuple #[.int .i64 (l.countP (· < x) : Nat), .bool c])) ∧ Below w.heap.size w w' := by
  obtain ⟨p, cap, rfl, _, h2⟩ := h
  rw [List.length_map] at h2 ⊢
  cases l with
  | nil =>
    refine (Try.slices_BinarySearch_int_empty p cap x w).mono ?_
    rintro e w' ⟨rfl, rfl⟩
    exact ⟨⟨false, rfl⟩, Below.refl _ _⟩
  | cons y r =>
    rcases h2 with h0 | ⟨blk, off, rfl, hblk, hc, hcell⟩
    · cases h0
    · refine (Try.slices_BinarySearch_int blk off (y :: r).length cap (y :: r) x w (Nat.le_refl _) (by omega) (fun j hj => hcell j _ ?_) (by rw [List.take_length]; exact hs)).mono ?_
      · rw [List.getElem?_map, List.getD_eq_getElem?_getD, List.getElem?_eq_getElem hj]; rfl
      · rintro e w' ⟨rfl, q, rfl⟩
        rw [List.take_length]
        exact ⟨⟨_, rfl⟩, below_drewN (Below.refl _ _) q⟩
def clnRen : Go.Shelf.Ren := ⟨fun | 41 => 97 | n => n, fun | 22 => 143 | 23 => 152 | 4 => 4 | n => n, fun n => n⟩
theorem clnLays : Go.Proofs.SlLaysE0.n41 Try.prog clnRen := {
  mixed := by kernel_rfl
  f41 := ⟨Try.f97.name, by decide, Try.func97.trans (congrArg some (by kernel_rfl))⟩
  t4 := Try.underlying4
  a4 := Try.isAgg4
  z4 := Try.sizeOf4
  v4 := Try.zeroValue4
  t22 := Try.underlying143
  a22 := Try.isAgg143
  z22 := Try.sizeOf143
  v22 := Try.zeroValue143 }
end Go.Proofs.Ythngkimncdpekaa
