/- string(bytes). -/
import Derived.Test.YtnofpbhpnhbbpaaStrs
import Derived.Test.YtnofpbhpnhbbpaaShelf
import Derived.Deep.Quiet
import Derived.IntWalk
namespace Go.Proofs.Ytnofpbhpnhbbpaa
set_option linter.unusedVariables false
open Go.RowKit

theorem foldl_push (l : List UInt8) : ∀ r : ByteArray, (l.map (fun c => (c.toNat : Int))).foldl (fun r n => r.push (UInt8.ofNat n.toNat)) r = r ++ ⟨l.toArray⟩ := by
  induction l with
  | nil => intro r; apply ByteArray.ext; simp
  | cons c t ih =>
    intro r
    rw [List.map_cons, List.foldl_cons, ih]
    apply ByteArray.ext
    simp [ByteArray.push]

theorem conv_row (v : Value) (T : List UInt8) (B : Nat) (W : World) (h : W.ownsRow B 5 1 v T.length (Lib.byteCells T)) :
    Sem.run Try.prog (convert 33 9 v) W = .ok (.string ⟨T.toArray⟩) W := by
  rcases h.2 with ⟨rfl, h0⟩ | ⟨g, cap, row, rfl, hg⟩
  · rw [run_convert_bytes_string _ 33 9 5 _ _ _ Try.underlying33 Try.underlying5 Try.underlying9]
    obtain rfl : T = [] := List.eq_nil_of_length_eq_zero h0
    simp [Conv.bytesToString, go_sem]
    rfl
  · rw [run_convert_bytes_string _ 33 9 5 _ _ _ Try.underlying33 Try.underlying5 Try.underlying9]
    rw [run_bytesToString _ _ _ _ (T.map (fun c => (c.toNat : Int)))]
    · rw [foldl_push]
      have e : ByteArray.empty ++ (⟨T.toArray⟩ : ByteArray) = ⟨T.toArray⟩ := by apply ByteArray.ext; simp
      rw [e]
    · have hl := run_loadCells_list (P := Try.prog) (w := W) ⟨g, 0, none⟩ (Lib.byteCells T) (fun j u hj => h.cells (g := g) rfl j u hj)
      rw [Lib.byteCells_length] at hl
      have e : (T.map (fun c => (c.toNat : Int))).map (Value.int .u8) = Lib.byteCells T := by
        rw [List.map_map]; rfl
      rw [e]
      exact hl

end Go.Proofs.Ytnofpbhpnhbbpaa
