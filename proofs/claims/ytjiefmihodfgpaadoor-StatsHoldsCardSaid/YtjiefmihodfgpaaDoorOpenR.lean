/- Responses that came in: each cell, and the marks of the items. -/
import Derived.Deep.Slices
import Derived.Deep.Strs
import Derived.Deep.Fields
import Derived.ChangeSame
import Derived.Test.YtjiefmihodfgpaaDoorHand
import Derived.Test.YtjiefmihodfgpaaDoorStatO
namespace Go.Proofs.YtjiefmihodfgpaaDoor
set_option linter.unusedVariables false
open Go Go.ChangeShapes Go.WideShapes Go.RowKit Go.Deep

instance : Inhabited Rp := ⟨⟨0, 0, 0, 0, none, 0, none, 0, 0⟩⟩
theorem list4 {α : Type} {l : List α} (h : l.length = 4) : ∃ a b c d, l = [a, b, c, d] := by
  match l, h with
  | [a, b, c, d], _ => exact ⟨a, b, c, d, rfl⟩
theorem list6 {α : Type} {l : List α} (h : l.length = 6) : ∃ a b c d e f, l = [a, b, c, d, e, f] := by
  match l, h with
  | [a, b, c, d, e, f], _ => exact ⟨a, b, c, d, e, f, rfl⟩
theorem addr_at (b o j : Nat) : (⟨b, o, none⟩ : Addr).add j = ⟨b, o + j, none⟩ := by
  unfold Addr.add
  split <;> simp_all
theorem spot_none {W : World} {a : Addr} {x : Value} (h : W.cell? a = some x) : a.spot = none ∧ a.block < W.heap.size := by
  refine ⟨?_, World.block_lt_of_cell? W a h⟩
  unfold World.cell? at h
  split at h
  · cases hs : a.spot with
    | none => rfl
    | some x => rw [hs] at h; simp at h
  · cases h
section
variable {H : Type} {enc : TypeId × Value → H} {W : World} {base : Nat} {spare : Nat → Bool} {held : Bool} {fuel : Nat} {cs : List Value} {x : DataW H × List MemPlace}
theorem field_of {fs : Array Field} {xs : List (DataW H × List MemPlace)} {n : Nat} (hf : ∀ (i : Nat) (f : Field), fs[i]? = some f → DataW.trod enc Tryd.prog W base spare held n f.type ((cs.drop f.offset).take (Tryd.prog.cellsOf f.type)) = xs[i]?)
    (i : Nat) {f : Field} {u : TypeId} {k : Value} {y : DataW H × List MemPlace} (h1 : fs[i]? = some f) (h2 : f.type = u) (h3 : f.offset = i) (h4 : Tryd.prog.cellsOf u = 1) (h5 : cs[i]? = some k) (h6 : xs[i]? = some y) : DataW.trod enc Tryd.prog W base spare held n u [k] = some y := by
  have := hf i f h1
  have e : (cs.drop i).take 1 = [k] := by
    obtain ⟨hl, rfl⟩ := List.getElem?_eq_some_iff.1 h5
    rw [List.drop_eq_getElem_cons hl]
    rfl
  rw [h2, h3, h4, h6, e] at this
  exact this
theorem slice_of {t e : TypeId} (ht : Tryd.prog.underlying t = some (.slice e)) (h : DataW.trod enc Tryd.prog W base spare held fuel t cs = some x) : ∃ p n c, cs = [.slice p n c] := by
  rcases open_slice ht h with ⟨rfl, _⟩ | ⟨a, len, cap, _, _, _, _, rfl, _⟩
  · exact ⟨_, _, _, rfl⟩
  · exact ⟨_, _, _, rfl⟩
/-- An item: its four cells. -/
theorem item_of (h : DataW.trod enc Tryd.prog W base spare held fuel 66 cs = some x) : ∃ m q n c u d, cs = [.int .i64 m, .slice q n c, .int .u64 u, .int .u64 d] := by
  obtain ⟨xs, n, _, _, hl, hxl, hf⟩ := DataW.trod_struct Tryd.underlying66 h
  have hl4 : cs.length = 4 := hl.trans (by kernel_rfl)
  have hx4 : xs.length = 4 := hxl
  obtain ⟨k0, k1, k2, k3, rfl⟩ := list4 hl4
  obtain ⟨y0, y1, y2, y3, rfl⟩ := list4 hx4
  have f0 := field_of hf 0 rfl (u := 62) rfl rfl (by kernel_rfl) rfl rfl
  have f1 := field_of hf 1 rfl (u := 63) rfl rfl (by kernel_rfl) rfl rfl
  have f2 := field_of hf 2 rfl (u := 27) rfl rfl (by kernel_rfl) rfl rfl
  have f3 := field_of hf 3 rfl (u := 64) rfl rfl (by kernel_rfl) rfl rfl
  obtain ⟨z0, e0, _⟩ := DataW.trod_int Tryd.underlying62 f0
  obtain ⟨p1, n1, k1', e1⟩ := slice_of Tryd.underlying63 f1
  obtain ⟨z2, e2, _⟩ := DataW.trod_int Tryd.underlying27 f2
  obtain ⟨z3, e3, _⟩ := DataW.trod_int Tryd.underlying64 f3
  injection e0 with e0
  injection e1 with e1
  injection e2 with e2
  injection e3 with e3
  exact ⟨z0, p1, n1, k1', z2, z3, by rw [e0, e1, e2, e3]⟩
/-- The items of a response. -/
theorem items_of (h : DataW.trod enc Tryd.prog W base spare held fuel 38 cs = some x) : ∃ p cap ms, cs = [.slice p (List.length ms) cap] ∧ ∀ b, W.heap.size ≤ b → ItemsAt W b p ms := by
  rcases open_slice Tryd.underlying38 h with ⟨rfl, _⟩ | ⟨a, len, cap, m, n, D, Pl, rfl, hb, hlc, _, hm, _, hi⟩
  · exact ⟨none, 0, [], rfl, fun b _ i m h => by simp at h⟩
  · have hlm : len ≤ m := by rw [hm]; split <;> omega
    have c4 : Tryd.prog.cellsOf 66 = 4 := by kernel_rfl
    rw [c4] at hi
    obtain ⟨V, hV⟩ := choose_lt (α := Int) (n := len) (p := fun i mk => ∃ q n c u d, W.cell? ((a.add (i * 4)).add 0) = some (.int .i64 mk) ∧ W.cell? ((a.add (i * 4)).add 1) = some (.slice q n c) ∧ W.cell? ((a.add (i * 4)).add 2) = some (.int .u64 u) ∧ W.cell? ((a.add (i * 4)).add 3) = some (.int .u64 d)) (fun i hil => by
      obtain ⟨cs', h1, h2⟩ := hi i (by omega)
      obtain ⟨_, hcl, hat⟩ := World.cells?_some h1
      obtain ⟨mk, q, n, c, u, d, rfl⟩ := item_of h2
      exact ⟨mk, q, n, c, u, d, hat 0 (by decide), hat 1 (by decide), hat 2 (by decide), hat 3 (by decide)⟩)
    refine ⟨some a, cap, (List.range len).map V, by simp, fun b hb i mk hx => ?_⟩
    rw [List.getElem?_map, Option.map_eq_some_iff] at hx
    obtain ⟨i', hi', rfl⟩ := hx
    have hil : i < len := by
      have := (List.getElem?_eq_some_iff.1 hi').1
      simpa using this
    obtain rfl : i' = i := by
      rw [List.getElem?_range hil] at hi'
      exact (Option.some.inj hi').symm
    obtain ⟨_, _, _, _, _, g0, _⟩ := hV 0 (by omega)
    obtain ⟨hs, hlt⟩ := spot_none (a := a) g0
    obtain ⟨blk, off, sp⟩ := a
    simp only at hs hlt
    subst hs
    obtain ⟨q, n, c, u, d, e0, e1, e2, e3⟩ := hV i' hil
    simp only [addr_at] at e0 e1 e2 e3
    exact ⟨blk, off, q, n, c, u, d, rfl, hlt, by omega, e0, e1, e2, e3⟩
/-- A response: its six cells and its items. -/
theorem resp_of (h : DataW.trod enc Tryd.prog W base spare held fuel 40 cs = some x) : ∃ (R : Rp) (ms : List Int), cs = (rcs R ms.length).toList ∧ (∀ b, W.heap.size ≤ b → ItemsAt W b R.p ms) ∧ R.cnt ≤ 9223372036854775807 := by
  obtain ⟨xs, n, _, _, hl, hxl, hf⟩ := DataW.trod_struct Tryd.underlying40 h
  have hl6 : cs.length = 6 := hl.trans (by kernel_rfl)
  have hx6 : xs.length = 6 := hxl
  obtain ⟨k0, k1, k2, k3, k4, k5, rfl⟩ := list6 hl6
  obtain ⟨y0, y1, y2, y3, y4, y5, rfl⟩ := list6 hx6
  have f0 := field_of hf 0 rfl (u := 37) rfl rfl (by kernel_rfl) rfl rfl
  have f1 := field_of hf 1 rfl (u := 24) rfl rfl (by kernel_rfl) rfl rfl
  have f2 := field_of hf 2 rfl (u := 38) rfl rfl (by kernel_rfl) rfl rfl
  have f3 := field_of hf 3 rfl (u := 27) rfl rfl (by kernel_rfl) rfl rfl
  have f4 := field_of hf 4 rfl (u := 3) rfl rfl (by kernel_rfl) rfl rfl
  have f5 := field_of hf 5 rfl (u := 22) rfl rfl (by kernel_rfl) rfl rfl
  obtain ⟨z0, e0, _⟩ := DataW.trod_int Tryd.underlying37 f0
  obtain ⟨z1, e1, _⟩ := DataW.trod_int Tryd.underlying24 f1
  obtain ⟨p2, cap2, ms, e2, hI⟩ := items_of f2
  obtain ⟨z3, e3, _⟩ := DataW.trod_int Tryd.underlying27 f3
  obtain ⟨z4, e4, _, w4⟩ := DataW.trod_int Tryd.underlying3 f4
  obtain ⟨p5, n5, k5', e5⟩ := slice_of Tryd.underlying22 f5
  injection e0 with e0
  injection e1 with e1
  injection e2 with e2
  injection e3 with e3
  injection e4 with e4
  injection e5 with e5
  exact ⟨⟨z0, z1, z3, z4, p2, cap2, p5, n5, k5'⟩, ms, by rw [e0, e1, e2, e3, e4, e5], hI, (bounds_i64 w4).2⟩
/-- A response as a parameter. -/
theorem open_resp {v : Value} {d : DataW H} {p : List MemPlace} (hv : ∃ c, v = .agg c) (h : DataW.Trod enc Tryd.prog W base spare held 40 v d p) : ∃ (R : Rp) (ms : List Int), v = .agg (rcs R ms.length) ∧ (∀ b, W.heap.size ≤ b → ItemsAt W b R.p ms) ∧ R.cnt ≤ 9223372036854775807 := by
  obtain ⟨c, rfl⟩ := hv
  obtain ⟨fuel, hf⟩ := h
  obtain ⟨R, ms, hcs, hI, hc⟩ := resp_of hf
  refine ⟨R, ms, ?_, hI, hc⟩
  have : c.toList = (rcs R ms.length).toList := hcs
  rw [Array.toList_inj.1 this]
/-- Responses at their places. -/
def RespsAt (W : World) (q : Option Addr) (L : List (Rp × List Int)) : Prop :=
  ∀ i X, L[i]? = some X → ∃ blk off, q = some ⟨blk, off, none⟩ ∧ blk < W.heap.size ∧ (∀ j, j < 6 → W.cell? ⟨blk, off + i * 6 + j, none⟩ = (rcs X.1 X.2.length)[j]?) ∧ (∀ b, W.heap.size ≤ b → ItemsAt W b X.1.p X.2) ∧ X.1.cnt ≤ 9223372036854775807
theorem open_resps {v : Value} {d : DataW H} {p : List MemPlace} (hv : ∃ a n c, v = .slice a n c) (h : DataW.Trod enc Tryd.prog W base spare held 33 v d p) : ∃ (L : List (Rp × List Int)) (q : Option Addr) (cap : Nat), v = .slice q L.length cap ∧ RespsAt W q L := by
  obtain ⟨a0, n0, c0, rfl⟩ := hv
  obtain ⟨fuel, hf⟩ := h
  rcases open_slice Tryd.underlying33 hf with ⟨hcs, _⟩ | ⟨a, len, cap, m, n, D, Pl, hcs, hb, hlc, _, hm, _, hi⟩
  · simp only [Value.cells] at hcs
    injection hcs with hcs
    rw [hcs]
    exact ⟨[], none, 0, rfl, fun i X h => by simp at h⟩
  · simp only [Value.cells] at hcs
    injection hcs with hcs
    rw [hcs]
    have hlm : len ≤ m := by rw [hm]; split <;> omega
    have c6 : Tryd.prog.cellsOf 40 = 6 := by kernel_rfl
    rw [c6] at hi
    obtain ⟨V, hV⟩ := choose_lt (α := Rp × List Int) (n := len) (p := fun i X => (∀ j, j < 6 → W.cell? ((a.add (i * 6)).add j) = (rcs X.1 X.2.length)[j]?) ∧ (∀ b, W.heap.size ≤ b → ItemsAt W b X.1.p X.2) ∧ X.1.cnt ≤ 9223372036854775807) (fun i hil => by
      obtain ⟨cs', h1, h2⟩ := hi i (by omega)
      obtain ⟨_, hcl, hat⟩ := World.cells?_some h1
      obtain ⟨R, ms, rfl, hI, hc⟩ := resp_of h2
      exact ⟨(R, ms), fun j hj => by have := hat j (by simpa using hj); simpa using this, hI, hc⟩)
    refine ⟨(List.range len).map V, some a, cap, by simp, fun i X hx => ?_⟩
    rw [List.getElem?_map, Option.map_eq_some_iff] at hx
    obtain ⟨i', hi', rfl⟩ := hx
    have hil : i < len := by
      have := (List.getElem?_eq_some_iff.1 hi').1
      simpa using this
    obtain rfl : i' = i := by
      rw [List.getElem?_range hil] at hi'
      exact (Option.some.inj hi').symm
    obtain ⟨g0, _⟩ := hV 0 (by omega)
    obtain ⟨hs, hlt⟩ := spot_none (a := a) (g0 0 (by decide))
    obtain ⟨blk, off, sp⟩ := a
    simp only at hs hlt
    subst hs
    obtain ⟨e0, e1, e2⟩ := hV i' hil
    simp only [addr_at] at e0
    exact ⟨blk, off, rfl, hlt, e0, e1, e2⟩
end
end Go.Proofs.YtjiefmihodfgpaaDoor
