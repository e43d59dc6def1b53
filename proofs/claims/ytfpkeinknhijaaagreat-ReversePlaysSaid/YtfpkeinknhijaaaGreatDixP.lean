/- Small laws of an index that both sides want. -/
import Derived.Test.YtfpkeinknhijaaaGreatRevL
import Derived.Test.YtfpkeinknhijaaaGreatOpenT
namespace Go.Proofs.YtfpkeinknhijaaaGreat
set_option linter.unusedVariables false
open Go.RowKit Go.Maps Go.Sort

theorem numB_lt {k : Nat} (h : k < 65536) : numB (k : Int) = true := by unfold numB; simp; omega
def bkv (v : Value) (g : Nat) : Prop := v.ownBlock = some g
theorem relsM_len : ∀ (ns : List Nat) (l : Nms), (relsM l ns).2.length ≤ ns.length
  | [], l => Nat.le_refl _
  | n :: r, l => by
    rw [relsM]
    have := relsM_len r (relM l (n : Int)).1
    simp only
    split
    · simp only [List.length_cons]
      omega
    · simp only [List.length_cons]
      omega
theorem Iw.numsLen {most R : Int} {d : Dx} (h : Iw most R d) {e : En} (he : e ∈ d.all) : e.tags.length ≤ 16 ∧ e.nums.length ≤ 16 := by
  have h5 := h.len e he
  have h6 := (tagsB_is h5.2.2).2.2.1
  exact ⟨h6, by rw [h5.1]; exact h6⟩
section
variable {w w' : World}
theorem only_grown {v : Value} (h : w.grownBy w' v.ownBlock) : Only (bkv v) w w' := ⟨h.os, h.tape, h.output, h.size, fun i hi hn => h.block i hi (fun e => hn e.symm)⟩
end
/-- What a cut does at a slot that is there. -/
theorem cut_at {d : Dx} {a b id : Nat} (ha : a < 65536) (h : (ofX d.sl a)[b]? = some id) : d.cut a b = if liveE d.all id = true then (d, false, 0) else (⟨d.nm, d.all, cutL a d.sl b⟩, true, 0) := by
  unfold Dx.cut
  rw [if_pos (numB_lt ha), if_pos (by omega : (0 : Int) ≤ (b : Int)), Int.toNat_natCast, Int.toNat_natCast, h]
end Go.Proofs.YtfpkeinknhijaaaGreat
