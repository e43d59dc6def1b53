/- A row of elements anywhere in a block of the call's own: read, set, cut at the front, appended to. -/
import Derived.Test.YtckdfnlleaifcaaOnly
import Derived.ArgAppend
import Derived.Deep.Onto
import Derived.Deep.MidRow
import Derived.Maps.RangeWalk
namespace Go.Proofs.Ytckdfnlleaifcaa
set_option linter.unusedVariables false
open Go Go.RowKit

/-- The slice v has n elements of size cells each, which read as xs; all cells up to its capacity are there and may be written. -/
def Mid (w : World) (size : Nat) (v : Value) (n : Nat) (xs : List Value) : Prop :=
  xs.length = n * size ∧ n ≤ maxLen ∧ ((v = .slice none 0 0 ∧ n = 0) ∨ ∃ g o cap, v = .slice (some ⟨g, o, none⟩) n cap ∧ n ≤ cap ∧ cap ≤ maxLen ∧ g < w.heap.size ∧
    (∀ j u, xs[j]? = some u → w.cell? ⟨g, o + j, none⟩ = some u) ∧ ∀ j, j < cap * size → (w.cell? ⟨g, o + j, none⟩).isSome = true ∧ w.frozen? ⟨g, o + j, none⟩ = false)
section
variable {w w' : World} {size : Nat} {v : Value} {n : Nat} {xs : List Value}
theorem Mid.nil (w : World) (size : Nat) : Mid w size (.slice none 0 0) 0 [] := ⟨by simp, Nat.zero_le _, .inl ⟨rfl, rfl⟩⟩
theorem Mid.of_own {base : Nat} {e : TypeId} (h : w.ownsRow base e size v n xs) (hm : n ≤ maxLen) : Mid w size v n xs := by
  refine ⟨h.1, hm, ?_⟩
  rcases h.2 with ⟨rfl, h0⟩ | ⟨g, cap, cur, rfl, hb, hg, hn, hcap, hs, ht⟩
  · exact .inl ⟨rfl, h0⟩
  · refine .inr ⟨g, 0, cap, rfl, hn, hcap, (Array.getElem?_eq_some_iff.1 hg).1, fun j u hj => ?_, fun j hj => ⟨?_, ?_⟩⟩
    · rw [cell_of_row w g (0 + j) cur e (0, 0) hg]
      rw [← ht, List.getElem?_take] at hj
      split at hj
      · simpa using hj
      · cases hj
    · rw [cell_of_row w g (0 + j) cur e (0, 0) hg]
      simp
      omega
    · simp [World.frozen?, hg]
theorem Mid.lt (h : Mid w size v n xs) {g : Nat} (hg : v.ownBlock = some g) : g < w.heap.size := by
  obtain ⟨_, _, ⟨rfl, _⟩ | ⟨g', o, cap, rfl, _, _, hlt, _⟩⟩ := h
  · cases hg
  · simp [Value.ownBlock] at hg
    omega
theorem Mid.congr (h : Mid w size v n xs) (hs : w.heap.size ≤ w'.heap.size) (hb : ∀ g, v.ownBlock = some g → w'.heap[g]? = w.heap[g]?) : Mid w' size v n xs := by
  obtain ⟨h1, h2, ⟨rfl, h3⟩ | ⟨g, o, cap, rfl, h3, h4, h5, h6, h7⟩⟩ := h
  · exact ⟨h1, h2, .inl ⟨rfl, h3⟩⟩
  · have he := hb g rfl
    refine ⟨h1, h2, .inr ⟨g, o, cap, rfl, h3, h4, by omega, fun j u hj => ?_, fun j hj => ?_⟩⟩
    · rw [World.cell?_of_block (w := w) (a := ⟨g, o + j, none⟩) he]
      exact h6 j u hj
    · rw [World.cell?_of_block (w := w) (a := ⟨g, o + j, none⟩) he, World.frozen?_of_block (w := w) (a := ⟨g, o + j, none⟩) he]
      exact h7 j hj
theorem Mid.only {S : Nat → Prop} (h : Mid w size v n xs) (ho : Only S w w') (hn : ∀ g, v.ownBlock = some g → ¬ S g) : Mid w' size v n xs :=
  h.congr ho.size (fun g hg => ho.block g (h.lt hg) (hn g hg))
theorem Mid.below (h : Mid w size v n xs) (hb : Below w.heap.size w w') : Mid w' size v n xs :=
  h.congr hb.size (fun g hg => hb.block g (h.lt hg))
theorem Mid.grown {row : Option Nat} (h : Mid w size v n xs) (hg : w.grownBy w' row) (hn : v.ownBlock ≠ row ∨ v.ownBlock = none) : Mid w' size v n xs :=
  h.congr hg.size (fun g hv => hg.block g (h.lt hv) (by rw [← hv]; rcases hn with h1 | h1; exact h1; rw [h1] at hv; cases hv))
theorem Mid.form (h : Mid w size v n xs) : ∃ p cap, v = .slice p n cap ∧ n ≤ cap ∧ cap ≤ maxLen := by
  obtain ⟨_, _, ⟨rfl, rfl⟩ | ⟨g, o, cap, rfl, h1, h2, _⟩⟩ := h
  · exact ⟨none, 0, rfl, Nat.le_refl _, Nat.zero_le _⟩
  · exact ⟨_, cap, rfl, h1, h2⟩
theorem Mid.at (h : Mid w size v n xs) (hn : 0 < n) : ∃ g o cap, v = .slice (some ⟨g, o, none⟩) n cap ∧ n ≤ cap ∧ g < w.heap.size ∧ (∀ j u, xs[j]? = some u → w.cell? ⟨g, o + j, none⟩ = some u) ∧ ∀ j, j < n * size → w.frozen? ⟨g, o + j, none⟩ = false := by
  obtain ⟨_, _, ⟨_, h0⟩ | ⟨g, o, cap, rfl, h1, h2, h3, h4, h5⟩⟩ := h
  · omega
  · exact ⟨g, o, cap, rfl, h1, h3, h4, fun j hj => (h5 j (Nat.lt_of_lt_of_le hj (Nat.mul_le_mul_right _ h1))).2⟩
theorem Mid.reads (h : Mid w 1 v n xs) (hl : n ≤ 140737488355328) : Reads w v xs := by
  obtain ⟨h0, _, ⟨rfl, rfl⟩ | ⟨g, o, cap, rfl, h1, h2, h3, h4, h5⟩⟩ := h
  · exact ⟨none, 0, by rw [show xs.length = 0 by omega], by omega, .inl (by omega)⟩
  · exact ⟨_, cap, by rw [show xs.length = n by omega], by omega, .inr ⟨g, o, rfl, h3, by omega, h4⟩⟩
/-- The front is cut off. -/
theorem Mid.tail {g o cap : Nat} (h : Mid w size (.slice (some ⟨g, o, none⟩) (n + 1) (cap + 1)) (n + 1) xs) : Mid w size (.slice (some ⟨g, o + size, none⟩) n cap) n (xs.drop size) := by
  obtain ⟨h0, h1, ⟨e, _⟩ | ⟨g', o', cap', e, h2, h3, h4, h5, h6⟩⟩ := h
  · cases e
  · injection e with e1 e2 e3
    injection e1 with e1
    injection e1 with e4 e5
    subst e3 e4 e5
    refine ⟨by rw [List.length_drop, h0, Nat.add_mul]; omega, by omega, .inr ⟨g, o + size, cap, rfl, by omega, by omega, h4, fun j u hj => ?_, fun j hj => ?_⟩⟩
    · rw [List.getElem?_drop] at hj
      rw [Nat.add_assoc]
      exact h5 _ u hj
    · rw [Nat.add_assoc]
      refine h6 _ ?_
      rw [Nat.add_mul]; omega
theorem Mid.none_ {g o cap : Nat} (h : Mid w size (.slice (some ⟨g, o, none⟩) 1 cap) 1 xs) : Mid w size (.slice (some ⟨g, o, none⟩) 0 0) 0 [] := by
  obtain ⟨h0, h1, ⟨e, _⟩ | ⟨g', o', cap', e, h2, h3, h4, h5, h6⟩⟩ := h
  · cases e
  · injection e with e1 e2 e3
    injection e1 with e1
    injection e1 with e4 e5
    subst e3 e4 e5
    exact ⟨by simp, Nat.zero_le _, .inr ⟨g, o, 0, rfl, Nat.le_refl _, Nat.zero_le _, h4, (fun j u hj => by simp at hj), (fun j hj => by simp at hj)⟩⟩
/-- One cell is set. -/
theorem Mid.set {g o cap : Nat} (h : Mid w size (.slice (some ⟨g, o, none⟩) n cap) n xs) (i : Nat) (u : Value) : Mid (w.setCell ⟨g, o + i, none⟩ u) size (.slice (some ⟨g, o, none⟩) n cap) n (xs.set i u) := by
  obtain ⟨h0, h1, ⟨e, _⟩ | ⟨g', o', cap', e, h2, h3, h4, h5, h6⟩⟩ := h
  · cases e
  · injection e with e1 e2 e3
    injection e1 with e1
    injection e1 with e4 e5
    subst e3 e4 e5
    refine ⟨by rw [List.length_set]; exact h0, h1, .inr ⟨g, o, cap, rfl, h2, h3, by simpa using h4, fun j x hj => ?_, fun j hj => ?_⟩⟩
    · rw [List.getElem?_set] at hj
      by_cases e : i = j
      · subst e
        rw [if_pos rfl] at hj
        split at hj
        · rename_i hl
          cases hj
          have hsome := (h6 i (by rw [h0] at hl; exact Nat.lt_of_lt_of_le hl (Nat.mul_le_mul_right _ h2))).1
          exact World.cell?_setCell_same' w _ _ hsome
        · cases hj
      · rw [if_neg e] at hj
        rw [World.cell?_setCell_other (h := by intro e2; injection e2 with _ e3; omega)]
        exact h5 j x hj
    · have := h6 j hj
      refine ⟨?_, ?_⟩
      · by_cases e : i = j
        · subst e
          rw [World.cell?_setCell_same' w _ _ this.1]
          rfl
        · rw [World.cell?_setCell_other (h := by intro e2; injection e2 with _ e3; omega)]
          exact this.1
      · rw [World.frozen?_setCell]
        exact this.2
theorem setCells_same (g : Nat) : ∀ (vs : List Value) (o : Nat) (w : World), (w.setCells g o vs).os = w.os ∧ (w.setCells g o vs).tape = w.tape ∧ (w.setCells g o vs).output = w.output ∧ (w.setCells g o vs).heap.size = w.heap.size ∧ ∀ k, k ≠ g → (w.setCells g o vs).heap[k]? = w.heap[k]?
  | [], o, w => ⟨rfl, rfl, rfl, rfl, fun _ _ => rfl⟩
  | v :: vs, o, w => by
    obtain ⟨h1, h2, h3, h4, h5⟩ := setCells_same g vs (o + 1) (w.setCell ⟨g, o, none⟩ v)
    refine ⟨h1, h2, h3, h4.trans (by simp [World.setCell]), fun k hk => (h5 k hk).trans (Below.heap_setCell w ⟨g, o, none⟩ v k hk)⟩
/-- The slice v has n elements of size cells each, which read as xs. -/
def RowAt (w : World) (size : Nat) (v : Value) (n : Nat) (xs : List Value) : Prop :=
  ∃ p c, v = .slice p n c ∧ xs.length = n * size ∧ n ≤ c ∧ (n = 0 ∨ ∃ blk off, p = some ⟨blk, off, none⟩ ∧ blk < w.heap.size ∧ ∀ j u, xs[j]? = some u → w.cell? ⟨blk, off + j, none⟩ = some u)
theorem RowAt.nil (w : World) (size : Nat) : RowAt w size (.slice none 0 0) 0 [] := ⟨none, 0, rfl, by simp, Nat.le_refl _, .inl rfl⟩
theorem RowAt.congr (h : RowAt w size v n xs) (hs : w.heap.size ≤ w'.heap.size) (hb : ∀ g, v.ownBlock = some g → g < w.heap.size → w'.heap[g]? = w.heap[g]?) : RowAt w' size v n xs := by
  obtain ⟨p, c, rfl, h1, h2, h3⟩ := h
  refine ⟨p, c, rfl, h1, h2, ?_⟩
  rcases h3 with h3 | ⟨blk, off, rfl, h4, h5⟩
  · exact .inl h3
  · refine .inr ⟨blk, off, rfl, by omega, fun j u hj => ?_⟩
    rw [World.cell?_of_block (w := w) (a := ⟨blk, off + j, none⟩) (hb blk rfl h4)]
    exact h5 j u hj
theorem RowAt.below (h : RowAt w size v n xs) (hb : Below w.heap.size w w') : RowAt w' size v n xs := h.congr hb.size (fun g _ hg => hb.block g hg)
theorem RowAt.only {S : Nat → Prop} (h : RowAt w size v n xs) (ho : Only S w w') (hn : ∀ g, v.ownBlock = some g → ¬ S g) : RowAt w' size v n xs := h.congr ho.size (fun g hg hlt => ho.block g hlt (hn g hg))
theorem RowAt.of_own {base : Nat} {e : TypeId} (h : w.ownsRow base e size v n xs) : RowAt w size v n xs := by
  rcases h.2 with ⟨rfl, h0⟩ | ⟨g, cap, cur, rfl, hb, hg, hn, hcap, hs, ht⟩
  · exact ⟨none, 0, by rw [h0], h.1, by omega, .inl h0⟩
  · refine ⟨_, cap, rfl, h.1, hn, .inr ⟨g, 0, rfl, (Array.getElem?_eq_some_iff.1 hg).1, fun j u hj => ?_⟩⟩
    rw [cell_of_row w g (0 + j) cur e (0, 0) hg]
    rw [← ht, List.getElem?_take] at hj
    split at hj
    · simpa using hj
    · cases hj
theorem Mid.rowAt (h : Mid w size v n xs) : RowAt w size v n xs := by
  obtain ⟨h0, _, ⟨rfl, rfl⟩ | ⟨g, o, cap, rfl, h1, h2, h3, h4, h5⟩⟩ := h
  · exact ⟨none, 0, rfl, h0, Nat.le_refl _, .inl rfl⟩
  · exact ⟨_, cap, rfl, h0, h1, .inr ⟨g, o, rfl, h3, h4⟩⟩
theorem RowAt.at (h : RowAt w size v n xs) (hn : 0 < n) : ∃ g o cap, v = .slice (some ⟨g, o, none⟩) n cap ∧ n ≤ cap ∧ g < w.heap.size ∧ ∀ j u, xs[j]? = some u → w.cell? ⟨g, o + j, none⟩ = some u := by
  obtain ⟨p, c, rfl, h1, h2, h3 | ⟨blk, off, rfl, h4, h5⟩⟩ := h
  · omega
  · exact ⟨blk, off, c, rfl, h2, h4, h5⟩
theorem RowAt.form (h : RowAt w size v n xs) : ∃ p cap, v = .slice p n cap ∧ n ≤ cap := by
  obtain ⟨p, c, rfl, h1, h2, h3⟩ := h
  exact ⟨p, c, rfl, h2⟩
variable {P : Program}
/-- One element more. -/
theorem Mid.append (h : Mid w size v n xs) (t ty e : TypeId) (i : TypeInfo) (z : Value) (bytes : Nat) (ht : P.underlying t = some (.slice e)) (hi : P.info? e = some i) (hz : i.zero = some z)
    (hsize : i.size = size) (hby : i.bytes = bytes) (hzs : z.cells.size = size) (hsz : 0 < size)
    (ad : Addr) (c : Nat) (news : List Value) (hl : news.length = size) (hnews : ∀ j u, news[j]? = some u → w.cell? (ad.add j) = some u) (h1 : ∀ u ∈ news, u.oneCell' = true)
    (h63 : n + 1 ≤ maxLen) (hbytes : (n + 1) * bytes ≤ 140737488355328) :
    ∃ v' w', (Builtin.append_ #[t, t] ty #[v, .slice (some ad) 1 c]).run P w = .ok v' w' ∧ Mid w' size v' (n + 1) (xs ++ news) ∧ w.grownBy w' v.ownBlock ∧ (v'.ownBlock = v.ownBlock ∨ ∃ k, v'.ownBlock = some k ∧ w.heap.size ≤ k) := by
  obtain ⟨h0, hm, ⟨rfl, rfl⟩ | ⟨g, o, cap, rfl, h2, h3, h4, h5, h6⟩⟩ := h
  · obtain rfl : xs = [] := List.eq_nil_of_length_eq_zero (by simpa using h0)
    obtain ⟨v', w', hrun, r1, r2, r3⟩ := run_append_own (P := P) w w.heap.size t ty e i z size bytes ht hi hz hsize hby hzs hsz (.slice none 0 0) 0 [] (World.ownsRow_nil w _ e size) ad 1 c news (by simpa using hl) hnews h1 (by simpa using h63) (by simpa using hbytes) (Nat.le_refl _)
    refine ⟨v', w', hrun, Mid.of_own r1 (by simpa using h63), r2, ?_⟩
    cases hv : v'.ownBlock with
    | none => exact .inl rfl
    | some k => exact .inr ⟨k, rfl, (r1.lt k hv).1⟩
  · by_cases hr : n + 1 ≤ cap
    · have hcs : (n + 1) * size ≤ cap * size := Nat.mul_le_mul_right _ hr
      have hn1 : (n + 1) * size = n * size + size := by rw [Nat.add_mul, Nat.one_mul]
      have hrun := run_append_room_cells (P := P) w t ty e i ht hi g o n cap ad 1 c news (by rw [hsize]; simpa using hl) hnews h1 hr
        (fun j hj => by rw [hsize, Nat.add_assoc]; exact (h6 _ (by omega)).1) (fun j hj => by rw [hsize, Nat.add_assoc]; exact (h6 _ (by omega)).2)
      rw [hsize] at hrun
      have hsome : ∀ j, j < news.length → (w.cell? ⟨g, o + n * size + j, none⟩).isSome = true := fun j hj => by rw [Nat.add_assoc]; exact (h6 _ (by omega)).1
      obtain ⟨k1, k2, k3, k4, k5⟩ := setCells_same g news (o + n * size) w
      refine ⟨_, _, hrun, ⟨by rw [List.length_append, h0, hl, hn1], h63, .inr ⟨g, o, cap, rfl, hr, h3, by rw [k4]; exact h4, fun j u hj => ?_, fun j hj => ⟨?_, ?_⟩⟩⟩, ?_, .inl rfl⟩
      · by_cases hlt : j < n * size
        · rw [List.getElem?_append_left (by omega)] at hj
          rw [World.cell?_setCells_out g _ _ _ _ (fun _ _ => Or.inl (by show o + j < o + n * size; omega))]
          exact h5 j u hj
        · rw [List.getElem?_append_right (by omega)] at hj
          rw [h0] at hj
          obtain ⟨hjl, hju⟩ := List.getElem?_eq_some_iff.1 hj
          have := World.cell?_setCells_in g news (o + n * size) w hsome (j - n * size) hjl
          rw [show o + n * size + (j - n * size) = o + j by omega] at this
          rw [this, hju]
      · exact World.isSome_setCells g news _ w _ (h6 j hj).1
      · rw [World.frozen?_setCells]
        exact (h6 j hj).2
      · exact ⟨k1, k2, k3, by rw [k4]; exact Nat.le_refl _, fun k hk hne => k5 k (fun e => hne (by rw [e]; rfl))⟩
    · obtain ⟨v', w', hrun, r1, r2⟩ := run_append_arg_grows (P := P) w t ty e i z size bytes ht hi hz hsize hby hzs hsz ⟨g, o, none⟩ n cap xs h0 (fun j u hj => by rw [Addr.add_lit]; exact h5 j u hj) ad 1 c news (by simpa using hl) hnews (by omega) h63 hbytes
      refine ⟨v', w', hrun, Mid.of_own r1 h63, r2.but _, ?_⟩
      cases hv : v'.ownBlock with
      | none =>
        exfalso
        rcases r1.2 with ⟨_, h7⟩ | ⟨k, cap', cur, rfl, _⟩
        · omega
        · simp [Value.ownBlock] at hv
      | some k => exact .inr ⟨k, rfl, (r1.lt k hv).1⟩
end
end Go.Proofs.Ytckdfnlleaifcaa
