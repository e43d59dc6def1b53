/- known: the chapter's examples. -/
import Derived.Test.YtjiefmihodfgpaaDoorStatU
import Derived.Test.YtjiefmihodfgpaaDoorStatQ
namespace Go.Proofs.YtjiefmihodfgpaaDoor
set_option linter.unusedVariables false
open Go.RowKit Go.Maps Go.Sort

def knL : List Int := [2, 1, 3, 1, 1, 1, 1, 0, 0, 3, 0, 0, 0, 0, 0, 0]
def knZ : List Int := List.replicate 16 0
def knM : List Int := [1, 0, 3, 1, 1, 1, 0, 0, 0, 0, 0, 0, 0, 0, 0, 0]
def knN : List Int := [2, 0, 3, 1, 1, 1, 1, 0, 0, 3, 0, 0, 0, 0, 0, 0]
def knS : List Int := [4, 2, 6, 2, 2, 2, 2, 0, 0, 6, 0, 0, 0, 0, 0, 0]
theorem isU_of {l : List Int} (h : l.all (fun x => decide (0 ≤ x) && decide (x ≤ 18446744073709551615)) = true) : ∀ x ∈ l, isU x := fun x hx => by
  have := List.all_eq_true.1 h x hx
  simpa [isU] using this

/-- Within known: the counts behind c. -/
structure Sk (w0 w : World) (c : Nat) (l : List Int) : Prop where
  laid : LaidS w
  cnt : CntAt w c l
  isu : ∀ x ∈ l, isU x
  ge : w0.heap.size ≤ c
  g8 : 8 ≤ w0.heap.size
  bel : Below w0.heap.size w0 w
section
variable {w0 w w' : World} {c : Nat} {l l' : List Int}
theorem Sk.quiet (s : Sk w0 w c l) (hb : Below w.heap.size w w') : Sk w0 w' c l :=
  ⟨s.laid.below hb s.laid.ge, ⟨s.cnt.1, Blk.below s.cnt.2 hb (Blk.lt s.cnt.2)⟩, s.isu, s.ge, s.g8, s.bel.trans (hb.mono s.bel.size)⟩
theorem Sk.note (s : Sk w0 w c l) (R : Rp) (ms : List Int) (hl : ms.length ≤ 1000) (hcn : R.cnt ≤ 9223372036854775807) (hI : ItemsAt w c R.p ms) (l' : List Int) (e : Int) (h : noteR l R.op R.err R.cnt ms = (l', e)) :
    Calls Tryd.prog 16 #[.pointer (some ⟨c, 0, none⟩), .agg (rcs R ms.length)] w fun e' w' => e' = .returned (.int .i64 e) ∧ Sk w0 w' c l' := by
  have h8 : 8 ≤ c := Nat.le_trans s.g8 s.ge
  have hu := noteR_is s.isu R.op R.err hcn ms hl
  refine (note_any c l ms R hl s.isu w s.cnt hI s.laid h8 hcn).mono ?_
  rw [h] at hu ⊢
  rintro e' w' ⟨rfl, hc, hg⟩
  exact ⟨rfl, s.laid.grown hg h8, hc, hu, s.ge, s.g8, Below.only s.bel hg s.bel.size s.ge⟩
end
theorem items_nil (w : World) (b : Nat) (p : Option Addr) : ItemsAt w b p [] := fun i m h => by simp at h

def knT : List UInt8 := [99, 111, 109, 109, 97, 110, 100, 115, 32, 50, 10, 114, 101, 102, 117, 115, 101, 100, 32, 49, 10, 105, 116, 101, 109, 115, 32, 51, 10, 102, 114, 101, 115, 104, 32, 49, 10, 115, 116, 97, 108, 101, 32, 49, 10, 109, 105, 115, 115, 101, 115, 32, 49, 10, 119, 114, 105, 116, 101, 115, 32, 49, 10, 116, 111, 117, 99, 104, 101, 100, 32, 48, 10, 100, 101, 108, 101, 116, 101, 100, 32, 48, 10, 98, 101, 108, 111, 119, 32, 51, 10, 112, 117, 114, 103, 101, 115, 32, 48, 10, 115, 111, 102, 116, 115, 32, 48, 10, 112, 114, 101, 102, 105, 120, 101, 115, 32, 48, 10, 102, 108, 117, 115, 104, 101, 115, 32, 48, 10, 110, 101, 119, 32, 48, 10, 103, 111, 110, 101, 32, 48, 10]
theorem knT_is : textTo knL 16 = knT := by
  have d : ∀ i, i < 10 → Lib.decDigits i = [UInt8.ofNat (48 + i)] := fun i h => by rw [Lib.decDigits_one h]
  have l0 : ∀ j n, 0 ≤ n → n < 10 → lineB j n = (wordB j).data.toList ++ [32] ++ [UInt8.ofNat (48 + n.toNat)] ++ [10] := fun j n h h2 => by unfold lineB; rw [d _ (by omega)]
  simp only [textTo]
  repeat rw [l0 _ _ (by decide) (by decide)]
  decide +kernel
#print axioms knT_is
theorem kn1 : noteR knZ 5 0 0 [1, 2, 0] = (knM, 0) := by decide +kernel
theorem kn2 : noteR knM 1 0 3 [] = (knN, 0) := by decide +kernel
theorem kn3 : noteR knN 4 2 0 [] = (knL, 0) := by decide +kernel
theorem kn4 : noteR knL 0 0 0 [] = (knL, 2) := by decide +kernel
theorem kn5 : sumOf knL knL = (knS, 0) := by decide +kernel
theorem kn6 : lessOf knL knL = (knZ, 0) := by decide +kernel
theorem kn7 : sumOf knZ knL = (knL, 0) := by decide +kernel
theorem kn8 : lessOf knZ knL = ([], 3) := by decide +kernel
theorem kn9 : sumOf knL (List.replicate 15 0) = ([], 2) := by decide +kernel
theorem kn10 : lessOf knL (List.replicate 15 0) = ([], 2) := by decide +kernel
theorem kn11 : ratOf knL = (2, 3, 0) := by decide +kernel
theorem kn12 : ratOf knZ = (0, 0, 9) := by decide +kernel
end Go.Proofs.YtjiefmihodfgpaaDoor
