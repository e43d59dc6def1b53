/- What the listed variables give the walks of stats. -/
import Derived.Test.YtjiefmihodfgpaaDoorStatG
import Derived.Test.YtjiefmihodfgpaaDoorHand
import Derived.ProofKit
import Derived.ChangeSame
import Derived.LaidMore
import Derived.Stop.LaidErr
import Derived.Lib.LaidTab
import Derived.Stop.Joined
import Derived.Shelf.Vars
namespace Go.Proofs.YtjiefmihodfgpaaDoor
set_option linter.unusedVariables false
open Go.ChangeShapes Go.WideShapes Go.ChangeAt Go.RowKit

def wordsD : List (DataW Unit) := wordsL.map fun s => .lit (.string s.data.toList)
def rowsD : List (DataW Unit) := rowsL.map fun r => .agg [.lit (.int .i64 r.1), .lit (.int .i64 r.2)]
theorem wordsD_is : (Rows.laid_tagcache_stats_words : DataW Unit) = .agg wordsD := rfl
theorem rowsD_is : (Rows.laid_tagcache_stats_rows : DataW Unit) = .agg rowsD := rfl

theorem words_of {W : World} {rest : List (String × DataW Unit)} (h : laidMet Tryd.prog (("tagcache/stats.words", Rows.laid_tagcache_stats_words) :: rest) W) : ∀ k, k < 16 → W.cell? ⟨1, k, none⟩ = some (.string (wordB k)) := by
  obtain ⟨ps, ⟨g, t, cs, fuel, p, q, hg, ht, hv, hd, _, _⟩, _, _⟩ := h
  intro r hr
  obtain rfl := Option.some.inj ((show Tryd.prog.globalNamed "tagcache/stats.words" = some 1 by kernel_rfl).symm.trans hg)
  obtain rfl := Option.some.inj ((show (Tryd.prog.globals[1]?).map (·.type) = some 89 by kernel_rfl).symm.trans ht)
  obtain ⟨xs, m, _, ex, _, hl, hel⟩ := DataW.trod_array Tryd.underlying89 hd
  have c5 : Tryd.prog.cellsOf 9 = 1 := by kernel_rfl
  have hE := hel r hr
  rw [c5, Nat.mul_one, List.getElem?_eq_getElem (by omega)] at hE
  obtain ⟨z, e1, e2, _⟩ := DataW.trod_string Tryd.underlying9 hE
  have e3 : (xs.map (·.1)) = wordsD := (DataW.agg.inj ((Prod.mk.inj ex).1.symm.trans wordsD_is))
  have hlen : wordsL.length = 16 := rfl
  have e4 : (xs.map (·.1))[r]? = wordsD[r]? := by rw [e3]
  unfold wordsD at e4
  rw [List.getElem?_map, List.getElem?_map, List.getElem?_eq_getElem (by omega : r < xs.length), List.getElem?_eq_getElem (by omega : r < wordsL.length), e2] at e4
  have hz : z = wordB r := by
    simp only [Option.map_some, Option.some.injEq, DataW.lit.injEq, Lit.string.injEq] at e4
    have : z.data = (wordsL[r]).data := by
      exact Array.toList_inj.1 e4
    unfold wordB
    rw [List.getD_eq_getElem?_getD, List.getElem?_eq_getElem (by omega : r < wordsL.length)]
    show z = wordsL[r]
    exact ByteArray.ext this
  rw [World.var?_cell hg hv r, ← hz]
  have : cs.toList[r]? = some (.string z) := by
    have h0 : ((cs.toList.drop r).take 1)[0]? = some (.string z) := by rw [e1]; rfl
    simpa using h0
  simpa using this
theorem rows_of {W : World} {rest : List (String × DataW Unit)} (h : laidMet Tryd.prog (("tagcache/stats.rows", Rows.laid_tagcache_stats_rows) :: rest) W) : ∀ k, k < 16 → W.cell? ⟨0, k * 2, none⟩ = some (.int .i64 (rowOne k)) ∧ W.cell? ⟨0, k * 2 + 1, none⟩ = some (.int .i64 (rowCnt k)) := by
  obtain ⟨ps, ⟨g, t, cs, fuel, p, q, hg, ht, hv, hd, _, _⟩, _, _⟩ := h
  intro r hr
  obtain rfl := Option.some.inj ((show Tryd.prog.globalNamed "tagcache/stats.rows" = some 0 by kernel_rfl).symm.trans hg)
  obtain rfl := Option.some.inj ((show (Tryd.prog.globals[0]?).map (·.type) = some 74 by kernel_rfl).symm.trans ht)
  obtain ⟨xs, m, _, ex, _, hl, hel⟩ := DataW.trod_array Tryd.underlying74 hd
  have c5 : Tryd.prog.cellsOf 73 = 2 := by kernel_rfl
  have c3 : Tryd.prog.cellsOf 3 = 1 := by kernel_rfl
  have hE := hel r hr
  rw [c5, List.getElem?_eq_getElem (by omega)] at hE
  obtain ⟨y0, y1, n, e2, _, h0, h1⟩ := trod_struct2 Tryd.underlying73 hE
  simp only [c3, List.drop_zero] at h0 h1
  obtain ⟨z0, q0, rfl, _⟩ := DataW.trod_int Tryd.underlying3 h0
  obtain ⟨z1, q1, rfl, _⟩ := DataW.trod_int Tryd.underlying3 h1
  have e3 : (xs.map (·.1)) = rowsD := (DataW.agg.inj ((Prod.mk.inj ex).1.symm.trans rowsD_is))
  have hlen : rowsL.length = 16 := rfl
  have e4 : (xs.map (·.1))[r]? = rowsD[r]? := by rw [e3]
  unfold rowsD at e4
  rw [List.getElem?_map, List.getElem?_map, List.getElem?_eq_getElem (by omega : r < xs.length), List.getElem?_eq_getElem (by omega : r < rowsL.length), e2] at e4
  simp only [Option.map_some, Option.some.injEq, DataW.agg.injEq, List.cons.injEq, DataW.lit.injEq, Lit.int.injEq, true_and, and_true] at e4
  have d0 : rowOne r = z0 := by
    unfold rowOne
    rw [List.getD_eq_getElem?_getD, List.getElem?_eq_getElem (by omega : r < rowsL.length)]
    exact e4.1.symm
  have d1 : rowCnt r = z1 := by
    unfold rowCnt
    rw [List.getD_eq_getElem?_getD, List.getElem?_eq_getElem (by omega : r < rowsL.length)]
    exact e4.2.symm
  rw [World.var?_cell hg hv (r * 2), World.var?_cell hg hv (r * 2 + 1), d0, d1]
  have t0 : cs.toList[r * 2]? = some (.int .i64 z0) := by
    have h0 : (((cs.toList.drop (r * 2)).take 2).take 1)[0]? = some (.int .i64 z0) := by rw [q0]; rfl
    simpa using h0
  have t1 : cs.toList[r * 2 + 1]? = some (.int .i64 z1) := by
    have h0 : ((((cs.toList.drop (r * 2)).take 2).drop 1).take 1)[0]? = some (.int .i64 z1) := by rw [q1]; rfl
    simpa using h0
  exact ⟨by simpa using t0, by simpa using t1⟩
theorem ge_of {W : World} {rest : List (String × DataW Unit)} (h : laidMet Tryd.prog (("math/bits.deBruijn64tab", Rows.laid_math_bits_deBruijn64tab) :: rest) W) : 8 ≤ W.heap.size := by
  obtain ⟨ps, ⟨g, t, cs, fuel, p, q, hg, ht, hv, hd, _, _⟩, _, _⟩ := h
  obtain rfl := Option.some.inj ((show Tryd.prog.globalNamed "math/bits.deBruijn64tab" = some 7 by kernel_rfl).symm.trans hg)
  rcases Nat.lt_or_ge 7 W.heap.size with h' | h'
  · exact h'
  · exfalso
    unfold World.var? at hv
    rw [hg] at hv
    simp [Array.getElem?_eq_none h'] at hv

def laidL : List (String × DataW Unit) := [("math/bits.deBruijn32tab", Rows.laid_math_bits_deBruijn32tab), ("math/bits.deBruijn64tab", Rows.laid_math_bits_deBruijn64tab), ("internal/strconv.uint64pow10", Rows.laid_internal_strconv_uint64pow10), ("tagcache/stats.words", Rows.laid_tagcache_stats_words), ("tagcache/stats.rows", Rows.laid_tagcache_stats_rows)]
theorem of_laid {W : World} (h : laidMetH Tryd.prog laidL W) (hs : W.ShapedOpen Tryd.prog) : LaidS W := by
  rw [MakeChecks.laidMetH_plain _ _ _ (by kernel_rfl)] at h
  have h2 := h.tail
  have h3 := h2.tail
  have h4 := h3.tail
  have h5 := h4.tail
  exact ⟨ge_of h2, Lib.tabIs_of_head (g := 2) (by kernel_rfl) (by kernel_rfl) Tryd.underlying126 Tryd.underlying27 (by kernel_rfl) (by kernel_rfl) h3, words_of h4, fun k hk => (rows_of h5 k hk).1, fun k hk => (rows_of h5 k hk).2⟩
end Go.Proofs.YtjiefmihodfgpaaDoor
