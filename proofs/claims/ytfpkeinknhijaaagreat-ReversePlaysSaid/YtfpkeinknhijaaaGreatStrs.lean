/- Slices of strings: as they read, and as a call owns them. No program in sight. -/
import Derived.WalkKit
import Derived.Below
import Derived.WalkSmall
import Derived.Sort.EncStr
import Derived.Lib.ItoaMem
namespace Go.Proofs.YtfpkeinknhijaaaGreat
set_option linter.unusedVariables false
open Go Go.RowKit

/-- The slice v reads, cell by cell, as the values xs. -/
def Reads (w : World) (v : Value) (xs : List Value) : Prop :=
  ∃ p cap, v = .slice p xs.length cap ∧ xs.length ≤ 140737488355328 ∧
    (xs.length = 0 ∨ ∃ blk off, p = some ⟨blk, off, none⟩ ∧ blk < w.heap.size ∧ xs.length ≤ cap ∧ ∀ i x, xs[i]? = some x → w.cell? ⟨blk, off + i, none⟩ = some x)

theorem Reads.below {w w' : World} {v : Value} {xs : List Value} (h : Reads w v xs) (hb : Below w.heap.size w w') : Reads w' v xs := by
  obtain ⟨p, cap, rfl, hl, h0 | ⟨blk, off, rfl, hlt, hc, hcell⟩⟩ := h
  · exact ⟨p, cap, rfl, hl, .inl h0⟩
  · exact ⟨_, cap, rfl, hl, .inr ⟨blk, off, rfl, Nat.lt_of_lt_of_le hlt hb.size, hc, fun i x hx => hb.cell (p := ⟨blk, off + i, none⟩) hlt ▸ hcell i x hx⟩⟩

theorem Reads.nil (w : World) (p : Option Addr) (cap : Nat) : Reads w (.slice p 0 cap) [] := ⟨p, cap, rfl, by simp, .inl rfl⟩

theorem ownsRow_below {w w' : World} {base : Nat} {e : TypeId} {size : Nat} {v : Value} {n : Nat} {xs : List Value} (h : w.ownsRow base e size v n xs) (hb : Below w.heap.size w w') : w'.ownsRow base e size v n xs := by
  refine ⟨h.1, ?_⟩
  rcases h.2 with hn | ⟨g, cap, cur, rfl, hb', hgg, rest⟩
  · exact .inl hn
  · refine .inr ⟨g, cap, cur, rfl, hb', ?_, rest⟩
    rw [hb.block g (Array.getElem?_eq_some_iff.1 hgg).1]
    exact hgg

theorem ownsRow_low {w : World} {base base' : Nat} {e : TypeId} {size : Nat} {v : Value} {n : Nat} {xs : List Value} (h : w.ownsRow base e size v n xs) (hb : base' ≤ base) : w.ownsRow base' e size v n xs := by
  refine ⟨h.1, ?_⟩
  rcases h.2 with hn | ⟨g, cap, cur, rfl, hb', rest⟩
  · exact .inl hn
  · exact .inr ⟨g, cap, cur, rfl, by omega, rest⟩

/-- What a call owns it can read. -/
theorem Reads.of_own {w : World} {base : Nat} {e : TypeId} {v : Value} {xs : List Value} (h : w.ownsRow base e 1 v xs.length xs) (hl : xs.length ≤ 140737488355328) : Reads w v xs := by
  obtain ⟨_, h2⟩ := h
  rcases h2 with ⟨rfl, h0⟩ | ⟨g, cap, cur, rfl, hb, hg, hn, hcap, hs, ht⟩
  · exact ⟨none, 0, by rw [h0], hl, .inl h0⟩
  · refine ⟨_, cap, rfl, hl, .inr ⟨g, 0, rfl, (Array.getElem?_eq_some_iff.1 hg).1, hn, fun i x hx => ?_⟩⟩
    rw [cell_of_row w g (0 + i) cur e (0, 0) hg]
    rw [← ht, List.getElem?_take] at hx
    split at hx
    · simpa using hx
    · cases hx

/-- A whole new block that holds just xs. -/
theorem ownsRow_whole {w : World} {e : TypeId} {xs : List Value} {cur : Array Value} (hc : cur = xs.toArray) (hm : xs.length ≤ maxLen) :
    (w.alloc (.cells cur e)).ownsRow w.heap.size e 1 (.slice (some ⟨w.heap.size, 0, none⟩) xs.length xs.length) xs.length xs := by
  subst hc
  refine ⟨by simp, .inr ⟨w.heap.size, xs.length, xs.toArray, rfl, Nat.le_refl _, heap_alloc_new w _, Nat.le_refl _, hm, by simp, by simp⟩⟩

theorem encStr_getElem (l : List (List UInt8)) (i : Nat) (x : List UInt8) (h : l[i]? = some x) : (l.map encStr)[i]? = some (.string ⟨x.toArray⟩) := by
  rw [List.getElem?_map, h]; rfl

theorem mk_toList (l : List UInt8) : (⟨l.toArray⟩ : ByteArray).toList = l := ByteArray.toList_eq _

/-- Two lists are equal where they are as long and alike at each index. -/
theorem list_eq_of {α : Type} {a b : List α} (hl : a.length = b.length) (h : ∀ i, i < a.length → a[i]? = b[i]?) : a = b := by
  apply List.ext_getElem? 
  intro i
  by_cases hi : i < a.length
  · exact h i hi
  · rw [List.getElem?_eq_none (by omega), List.getElem?_eq_none (by omega)]

/-- Behind an append of what lies in one new block. -/
theorem below_append {B : Nat} {w W1 w' : World} {o : Obj} {e : TypeId} {s : Nat} {v : Value} {n : Nat} {xs : List Value} (hbl : Below B w W1) (hB : B ≤ W1.heap.size) (hown : W1.ownsRow B e s v n xs) (hg : (W1.alloc o).grownBy w' v.ownBlock) : Below B w w' :=
  (hbl.alloc hB o).grown hg (by simp; omega) (fun j hj => (hown.lt j hj).1)

theorem cell_one_new (w : World) (x : Value) (t : TypeId) : ∀ j u, [x][j]? = some u → (w.alloc (.cells #[x] t)).cell? ((⟨w.heap.size, 0, none⟩ : Addr).add j) = some u := by
  intro j u hj
  match j, hj with
  | 0, hj => simp at hj; subst hj; simp [Addr.add]
  | j + 1, hj => simp at hj

theorem one_string (x : ByteArray) : ∀ u ∈ [Value.string x], u.oneCell' = true := by
  intro u hu
  simp at hu
  subst hu
  rfl
theorem one_int (k : IntKind) (x : Int) : ∀ u ∈ [Value.int k x], u.oneCell' = true := by
  intro u hu
  simp at hu
  subst hu
  rfl
end Go.Proofs.YtfpkeinknhijaaaGreat
