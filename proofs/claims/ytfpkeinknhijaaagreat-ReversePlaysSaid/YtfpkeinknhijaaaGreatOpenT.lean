/- Lists of strings, and calls that hold some, as they came in. -/
import Derived.Deep.Slices
import Derived.Deep.Strs
import Derived.Deep.Fields
import Derived.ChangeSame
import Derived.Test.YtfpkeinknhijaaaGreatHand
import Derived.Test.YtfpkeinknhijaaaGreatRevL
namespace Go.Proofs.YtfpkeinknhijaaaGreat
set_option linter.unusedVariables false
open Go Go.ChangeShapes Go.WideShapes Go.RowKit Go.Deep

theorem addr_at (b o j : Nat) : (⟨b, o, none⟩ : Addr).add j = ⟨b, o + j, none⟩ := by
  unfold Addr.add
  split <;> simp_all
theorem spot_none {W : World} {a : Addr} {x : Value} (h : W.cell? a = some x) : a.spot = none ∧ a.block < W.heap.size := by
  refine ⟨?_, World.block_lt_of_cell? W a h⟩
  unfold World.cell? at h
  split at h
  · cases hs : a.spot with
    | none => rfl
    | some x => rw [hs] at h; simp at h
  · cases h
/-- A list of strings at its place. -/
def StrsAt (W : World) (p : Option Addr) (cap : Nat) (ts : List (List UInt8)) : Prop :=
  ts = [] ∨ ∃ blk off, p = some ⟨blk, off, none⟩ ∧ blk < W.heap.size ∧ ts.length ≤ cap ∧ ∀ j s, ts[j]? = some s → W.cell? ⟨blk, off + j, none⟩ = some (.string ⟨s.toArray⟩)
theorem StrsAt.below {W w : World} {p : Option Addr} {cap : Nat} {ts : List (List UInt8)} (h : StrsAt W p cap ts) (hb : Below W.heap.size W w) : StrsAt w p cap ts := by
  rcases h with h | ⟨blk, off, h1, h2, h3, h4⟩
  · exact .inl h
  · exact .inr ⟨blk, off, h1, Nat.lt_of_lt_of_le h2 hb.size, h3, fun j s hs => (hb.cell (p := ⟨blk, off + j, none⟩) h2).trans (h4 j s hs)⟩
theorem StrsAt.reads {W : World} {p : Option Addr} {cap : Nat} {ts : List (List UInt8)} (h : StrsAt W p cap ts) (hl : ts.length ≤ 100000) : Reads W (.slice p ts.length cap) (ts.map encStr) := by
  refine ⟨p, cap, by rw [List.length_map], by rw [List.length_map]; omega, ?_⟩
  rw [List.length_map]
  rcases h with rfl | ⟨blk, off, h1, h2, h3, h4⟩
  · exact .inl rfl
  · refine .inr ⟨blk, off, h1, h2, h3, fun i x hx => ?_⟩
    rw [List.getElem?_map, Option.map_eq_some_iff] at hx
    obtain ⟨s, hs, rfl⟩ := hx
    exact h4 i s hs
theorem StrsAt.at_ {W : World} {p : Option Addr} {cap : Nat} {ts : List (List UInt8)} (h : StrsAt W p cap ts) {j : Nat} {s : List UInt8} (hs : ts[j]? = some s) : ∃ blk off, p = some ⟨blk, off, none⟩ ∧ blk < W.heap.size ∧ W.cell? ⟨blk, off + j, none⟩ = some (.string ⟨s.toArray⟩) := by
  rcases h with rfl | ⟨blk, off, h1, h2, h3, h4⟩
  · simp at hs
  · exact ⟨blk, off, h1, h2, h4 j s hs⟩
/-- A call: two numbers, tags, and more numbers. -/
structure Ra where
  what : Int
  id : Nat
  p : Option Addr
  cap : Nat
  ts : List (List UInt8)
  n : Int
  i : Int
instance : Inhabited Ra := ⟨⟨0, 0, none, 0, [], 0, 0⟩⟩
section
variable {H : Type} {enc : TypeId × Value → H} {W : World} {base : Nat} {spare : Nat → Bool} {held : Bool} {fuel : Nat} {cs : List Value} {x : DataW H × List MemPlace}
theorem tfield_of {fs : Array Field} {xs : List (DataW H × List MemPlace)} {n : Nat} (hf : ∀ (i : Nat) (f : Field), fs[i]? = some f → DataW.trod enc Tryz.prog W base spare held n f.type ((cs.drop f.offset).take (Tryz.prog.cellsOf f.type)) = xs[i]?)
    (i : Nat) {f : Field} {u : TypeId} {k : Value} {y : DataW H × List MemPlace} (h1 : fs[i]? = some f) (h2 : f.type = u) (h3 : f.offset = i) (h4 : Tryz.prog.cellsOf u = 1) (h5 : cs[i]? = some k) (h6 : xs[i]? = some y) : DataW.trod enc Tryz.prog W base spare held n u [k] = some y := by
  have := hf i f h1
  have e : (cs.drop i).take 1 = [k] := by
    obtain ⟨hl, rfl⟩ := List.getElem?_eq_some_iff.1 h5
    rw [List.drop_eq_getElem_cons hl]
    rfl
  rw [h2, h3, h4, h6, e] at this
  exact this
/-- A list of strings that came in. -/
theorem strs_of (h : DataW.trod enc Tryz.prog W base spare held fuel 36 cs = some x) : ∃ p cap ts, cs = [.slice p (List.length ts) cap] ∧ StrsAt W p cap ts := by
  rcases open_slice Tryz.underlying36 h with ⟨rfl, _⟩ | ⟨a, len, cap, m, n, D, Pl, rfl, hb, hlc, _, hm, _, hi⟩
  · exact ⟨none, 0, [], rfl, .inl rfl⟩
  · have hlm : len ≤ m := by rw [hm]; split <;> omega
    have c1 : Tryz.prog.cellsOf 9 = 1 := by kernel_rfl
    rw [c1] at hi
    obtain ⟨V, hV⟩ := choose_lt (α := List UInt8) (n := len) (p := fun i s => W.cell? ((a.add (i * 1)).add 0) = some (.string ⟨s.toArray⟩)) (fun i hil => by
      obtain ⟨cs', h1, h2⟩ := hi i (by omega)
      obtain ⟨_, hcl, hat⟩ := World.cells?_some h1
      obtain ⟨z, hz, _, _⟩ := DataW.trod_string Tryz.underlying9 h2
      have h0 := hat 0 (by omega)
      rw [hz] at h0
      refine ⟨z.data.toList, h0.trans ?_⟩
      have : (⟨z.data.toList.toArray⟩ : ByteArray) = z := by simp
      rw [this]
      rfl)
    rcases Nat.eq_zero_or_pos len with h0 | h0
    · subst h0
      exact ⟨some a, cap, [], rfl, .inl rfl⟩
    · obtain ⟨hs, hlt⟩ := spot_none (a := a) (hV 0 h0)
      obtain ⟨blk, off, sp⟩ := a
      simp only at hs hlt
      subst hs
      refine ⟨some ⟨blk, off, none⟩, cap, (List.range len).map V, by simp, .inr ⟨blk, off, rfl, hlt, by simpa using hlc, fun j s hj => ?_⟩⟩
      rw [List.getElem?_map, Option.map_eq_some_iff] at hj
      obtain ⟨i', hi', rfl⟩ := hj
      have hil : j < len := by
        have := (List.getElem?_eq_some_iff.1 hi').1
        simpa using this
      obtain rfl : i' = j := by
        rw [List.getElem?_range hil] at hi'
        exact (Option.some.inj hi').symm
      have := hV i' hil
      simp only [addr_at, Nat.mul_one, Nat.add_zero] at this
      exact this
theorem tlist5 {α : Type} {l : List α} (h : l.length = 5) : ∃ a b c d e, l = [a, b, c, d, e] := by
  match l, h with
  | [a, b, c, d, e], _ => exact ⟨a, b, c, d, e, rfl⟩
theorem tlist4 {α : Type} {l : List α} (h : l.length = 4) : ∃ a b c d, l = [a, b, c, d] := by
  match l, h with
  | [a, b, c, d], _ => exact ⟨a, b, c, d, rfl⟩
abbrev racs (X : Ra) : List Value := [.int .i64 X.what, .int .u64 (X.id : Int), .slice X.p X.ts.length X.cap, .int .i64 X.n, .int .i64 X.i]
def RaOk (X : Ra) : Prop := X.id ≤ 18446744073709551615 ∧ (-9223372036854775808 ≤ X.what ∧ X.what ≤ 9223372036854775807) ∧ (-9223372036854775808 ≤ X.n ∧ X.n ≤ 9223372036854775807) ∧ (-9223372036854775808 ≤ X.i ∧ X.i ≤ 9223372036854775807)
theorem nat_u64 {z : Int} (h : (Lit.int .u64 z).wf = true) : ∃ k : Nat, z = k ∧ k ≤ 18446744073709551615 := by
  have := bounds_u64 h
  exact ⟨z.toNat, by omega, by omega⟩
/-- A call of layer 18. -/
theorem ract_of (h : DataW.trod enc Tryz.prog W base spare held fuel 38 cs = some x) : ∃ X : Ra, cs = racs X ∧ StrsAt W X.p X.cap X.ts ∧ RaOk X := by
  obtain ⟨xs, n, _, _, hl, hxl, hf⟩ := DataW.trod_struct Tryz.underlying38 h
  have hl5 : cs.length = 5 := hl.trans (by kernel_rfl)
  have hx5 : xs.length = 5 := hxl
  obtain ⟨k0, k1, k2, k3, k4, rfl⟩ := tlist5 hl5
  obtain ⟨y0, y1, y2, y3, y4, rfl⟩ := tlist5 hx5
  have f0 := tfield_of hf 0 rfl (u := 3) rfl rfl (by kernel_rfl) rfl rfl
  have f1 := tfield_of hf 1 rfl (u := 22) rfl rfl (by kernel_rfl) rfl rfl
  have f2 := tfield_of hf 2 rfl (u := 36) rfl rfl (by kernel_rfl) rfl rfl
  have f3 := tfield_of hf 3 rfl (u := 3) rfl rfl (by kernel_rfl) rfl rfl
  have f4 := tfield_of hf 4 rfl (u := 3) rfl rfl (by kernel_rfl) rfl rfl
  obtain ⟨z0, e0, _, w0⟩ := DataW.trod_int Tryz.underlying3 f0
  obtain ⟨z1, e1, _, w1⟩ := DataW.trod_int Tryz.underlying22 f1
  obtain ⟨p2, cap2, ts, e2, hI⟩ := strs_of f2
  obtain ⟨z3, e3, _, w3⟩ := DataW.trod_int Tryz.underlying3 f3
  obtain ⟨z4, e4, _, w4⟩ := DataW.trod_int Tryz.underlying3 f4
  obtain ⟨k, rfl, hk⟩ := nat_u64 w1
  injection e0 with e0
  injection e1 with e1
  injection e2 with e2
  injection e3 with e3
  injection e4 with e4
  exact ⟨⟨z0, k, p2, cap2, ts, z3, z4⟩, by rw [e0, e1, e2, e3, e4], hI, hk, bounds_i64 w0, bounds_i64 w3, bounds_i64 w4⟩
/-- Calls of layer 18 at their places. -/
def RActs (W : World) (q : Option Addr) (L : List Ra) : Prop :=
  ∀ i X, L[i]? = some X → RaOk X ∧ StrsAt W X.p X.cap X.ts ∧ ∃ blk off, q = some ⟨blk, off, none⟩ ∧ blk < W.heap.size ∧ ∀ j, j < 5 → W.cell? ⟨blk, off + i * 5 + j, none⟩ = (racs X)[j]?
theorem open_racts {v : Value} {d : DataW H} {p : List MemPlace} (hv : ∃ a n c, v = .slice a n c) (h : DataW.Trod enc Tryz.prog W base spare held 52 v d p) : ∃ (L : List Ra) (q : Option Addr) (cap : Nat), v = .slice q L.length cap ∧ RActs W q L := by
  obtain ⟨a0, n0, c0, rfl⟩ := hv
  obtain ⟨fuel, hf⟩ := h
  rcases open_slice Tryz.underlying52 hf with ⟨hcs, _⟩ | ⟨a, len, cap, m, n, D, Pl, hcs, hb, hlc, _, hm, _, hi⟩
  · simp only [Value.cells] at hcs
    injection hcs with hcs
    rw [hcs]
    exact ⟨[], none, 0, rfl, fun i X h => by simp at h⟩
  · simp only [Value.cells] at hcs
    injection hcs with hcs
    rw [hcs]
    have hlm : len ≤ m := by rw [hm]; split <;> omega
    have c5 : Tryz.prog.cellsOf 38 = 5 := by kernel_rfl
    rw [c5] at hi
    obtain ⟨V, hV⟩ := choose_lt (α := Ra) (n := len) (p := fun i X => (∀ j, j < 5 → W.cell? ((a.add (i * 5)).add j) = (racs X)[j]?) ∧ StrsAt W X.p X.cap X.ts ∧ RaOk X) (fun i hil => by
      obtain ⟨cs', h1, h2⟩ := hi i (by omega)
      obtain ⟨_, hcl, hat⟩ := World.cells?_some h1
      obtain ⟨X, rfl, hI, hc⟩ := ract_of h2
      exact ⟨X, fun j hj => hat j (by simpa using hj), hI, hc⟩)
    refine ⟨(List.range len).map V, some a, cap, by simp, fun i X hx => ?_⟩
    rw [List.getElem?_map, Option.map_eq_some_iff] at hx
    obtain ⟨i', hi', rfl⟩ := hx
    have hil : i < len := by
      have := (List.getElem?_eq_some_iff.1 hi').1
      simpa using this
    obtain rfl : i' = i := by
      rw [List.getElem?_range hil] at hi'
      exact (Option.some.inj hi').symm
    obtain ⟨g0, _⟩ := hV 0 (by omega)
    obtain ⟨hs, hlt⟩ := spot_none (a := a) (g0 0 (by decide))
    obtain ⟨blk, off, sp⟩ := a
    simp only at hs hlt
    subst hs
    obtain ⟨e0, e1, e2⟩ := hV i' hil
    simp only [addr_at] at e0
    exact ⟨e2, e1, blk, off, rfl, hlt, e0⟩
end
end Go.Proofs.YtfpkeinknhijaaaGreat
