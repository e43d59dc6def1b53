/- What the listed variables and the world's shape give the walks of key. -/
import Derived.Test.YtbcfbdkacnnkgaaDoorKeyU
import Derived.Test.YtbcfbdkacnnkgaaDoorHand
import Derived.ProofKit
import Derived.Stop.LaidErr
import Derived.Shelf.Vars
namespace Go.Proofs.YtbcfbdkacnnkgaaDoor
set_option linter.unusedVariables false
open Go.ChangeShapes Go.WideShapes Go.ChangeAt Go.RowKit

def laidL : List (String × DataW Unit) := [("unicode/utf8.acceptRanges", Rows.laid_unicode_utf8_acceptRanges), ("tagcache/key.digits", Rows.laid_tagcache_key_digits), ("unicode/utf8.first", Rows.laid_unicode_utf8_first)]

theorem digits_of {W : World} (h : laidMetH Tryd.prog laidL W) : Digits W := by
  rw [MakeChecks.laidMetH_plain _ _ _ (by kernel_rfl)] at h
  obtain ⟨ps, ⟨g, t, cs, fuel, p, q, hg, ht, hv, hd, _, _⟩, _, _⟩ := h.tail
  intro r hr
  obtain rfl := Option.some.inj ((show Tryd.prog.globalNamed "tagcache/key.digits" = some 0 by kernel_rfl).symm.trans hg)
  obtain rfl := Option.some.inj ((show (Tryd.prog.globals[0]?).map (·.type) = some 62 by kernel_rfl).symm.trans ht)
  obtain ⟨xs, m, _, ex, _, hl, hel⟩ := DataW.trod_array Tryd.underlying62 hd
  have c5 : Tryd.prog.cellsOf 5 = 1 := by kernel_rfl
  have hE := hel r hr
  rw [c5, Nat.mul_one, List.getElem?_eq_getElem (by omega)] at hE
  obtain ⟨z, e1, e2, _⟩ := DataW.trod_int Tryd.underlying5 hE
  have e3 : (xs.map (·.1)) = hexL.map fun n => (DataW.lit (.int .u8 (n.toNat : Int)) : DataW Unit) := (DataW.agg.inj (Prod.mk.inj ex).1).symm
  have e4 : (xs.map (·.1))[r]? = (hexL.map fun n => (DataW.lit (.int .u8 (n.toNat : Int)) : DataW Unit))[r]? := by rw [e3]
  have hlen : hexL.length = 16 := rfl
  rw [List.getElem?_map, List.getElem?_map, List.getElem?_eq_getElem (by omega : r < xs.length), List.getElem?_eq_getElem (by omega : r < hexL.length), e2] at e4
  have hz : z = ((hexD r).toNat : Int) := by
    simp only [Option.map_some, Option.some.injEq, DataW.lit.injEq, Lit.int.injEq, true_and] at e4
    rw [e4]
    simp [hexD, List.getD, List.getElem?_eq_getElem (by omega : r < hexL.length)]
  rw [World.var?_cell hg hv r, ← hz]
  have : cs.toList[r]? = some (.int .u8 z) := by
    have h0 : ((cs.toList.drop r).take 1)[0]? = some (.int .u8 z) := by rw [e1]; rfl
    simpa using h0
  simpa using this

theorem of_laid {W : World} (h : laidMetH Tryd.prog laidL W) (hs : W.ShapedOpen Tryd.prog) : LaidK W :=
  ⟨⟨Go.Proofs.cell_of_shapedOpen_int (zero := #[.int .i64 0]) (t := 3) hs (of_decide_eq_true (by kernel_rfl)) (by kernel_rfl) rfl (by kernel_rfl) (by kernel_rfl) Tryd.underlying3⟩, digits_of h⟩
end Go.Proofs.YtbcfbdkacnnkgaaDoor
