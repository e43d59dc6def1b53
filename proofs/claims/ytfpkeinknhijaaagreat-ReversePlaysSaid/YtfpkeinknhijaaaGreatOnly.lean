/- What a call may turn: the blocks of its own objects, and new ones. -/
import Derived.Test.YtfpkeinknhijaaaGreatBlk
namespace Go.Proofs.YtfpkeinknhijaaaGreat
set_option linter.unusedVariables false
open Go Go.RowKit

/-- Only blocks of which S holds, and new ones, have turned. -/
structure Only (S : Nat → Prop) (w w' : World) : Prop where
  os : w'.os = w.os
  tape : w'.tape = w.tape
  output : w'.output = w.output
  size : w.heap.size ≤ w'.heap.size
  block : ∀ k, k < w.heap.size → ¬ S k → w'.heap[k]? = w.heap[k]?
section
variable {S S' : Nat → Prop} {w w' w'' : World} {B : Nat}
theorem Only.refl (S : Nat → Prop) (w : World) : Only S w w := ⟨rfl, rfl, rfl, Nat.le_refl _, fun _ _ _ => rfl⟩
theorem Only.trans (h : Only S w w') (k : Only S' w' w'') (hs : ∀ g, S' g → S g ∨ w.heap.size ≤ g) : Only S w w'' :=
  ⟨k.os.trans h.os, k.tape.trans h.tape, k.output.trans h.output, Nat.le_trans h.size k.size, fun i hi hn => by
    refine (k.block i (Nat.lt_of_lt_of_le hi h.size) (fun hk => ?_)).trans (h.block i hi hn)
    rcases hs i hk with h1 | h1
    · exact hn h1
    · omega⟩
theorem Only.more (h : Only S w w') (hs : ∀ g, S g → S' g ∨ w.heap.size ≤ g) : Only S' w w' :=
  ⟨h.os, h.tape, h.output, h.size, fun i hi hn => h.block i hi (fun hk => by rcases hs i hk with h1 | h1; exact hn h1; omega)⟩
theorem Only.of_below (h : Below w.heap.size w w') (S : Nat → Prop) : Only S w w' := ⟨h.os, h.tape, h.output, h.size, fun i hi _ => h.block i hi⟩
theorem Only.of_grown {g : Nat} (h : w.grownBy w' (some g)) (hg : S g) : Only S w w' := ⟨h.os, h.tape, h.output, h.size, fun i hi hn => h.block i hi (fun e => hn (by injection e with e; rw [e]; exact hg))⟩
theorem Only.below (h : Only S w w') (hS : ∀ g, S g → B ≤ g) (hB : B ≤ w.heap.size) : Below B w w' :=
  ⟨h.os, h.tape, h.output, h.size, fun k hk => h.block k (Nat.lt_of_lt_of_le hk hB) (fun hs => by have := hS k hs; omega)⟩
theorem Only.alloc (h : Only S w w') (o : Obj) : Only S w (w'.alloc o) :=
  ⟨h.os, h.tape, h.output, Nat.le_trans h.size (by simp), fun i hi hn => (Below.heap_alloc w' o i (Nat.lt_of_lt_of_le hi h.size)).trans (h.block i hi hn)⟩
theorem Only.drewN (h : Only S w w') (n : Nat) : Only S w (w'.drewN n) := ⟨h.os, h.tape, h.output, h.size, h.block⟩
theorem Only.drew (h : Only S w w') : Only S w w'.drew := ⟨h.os, h.tape, h.output, h.size, h.block⟩
theorem Only.setCell (h : Only S w w') {p : Addr} (hp : S p.block ∨ w.heap.size ≤ p.block) (u : Value) : Only S w (w'.setCell p u) :=
  ⟨h.os, h.tape, h.output, by simpa [World.setCell] using h.size, fun i hi hn => (Below.heap_setCell w' p u i (fun e => by
    rcases hp with h1 | h1
    · exact hn (by rw [e]; exact h1)
    · omega)).trans (h.block i hi hn)⟩
theorem Only.setCell1 (h : Only S w w') {g : Nat} (hp : S g ∨ w.heap.size ≤ g) (o : Nat) (u : Value) : Only S w (w'.setCell ⟨g, o, none⟩ u) := h.setCell (p := ⟨g, o, none⟩) hp u
/-- What lies in blocks of which S does not hold stays. -/
theorem Blk.only {g : Nat} {t : TypeId} {cs : Array Value} (h : Blk w g t cs) (ho : Only S w w') (hn : ¬ S g) : Blk w' g t cs := (ho.block g h.lt hn).trans h
theorem ownsRow_lt {e : TypeId} {s : Nat} {v : Value} {n : Nat} {xs : List Value} (h : w.ownsRow B e s v n xs) {g : Nat} (hg : v.ownBlock = some g) : g < w.heap.size := (h.lt g hg).2
theorem ownsRow_only {e : TypeId} {s : Nat} {v : Value} {n : Nat} {xs : List Value} (h : w.ownsRow B e s v n xs) (ho : Only S w w') (hn : ∀ g, v.ownBlock = some g → ¬ S g) : w'.ownsRow B e s v n xs := by
  refine ⟨h.1, ?_⟩
  rcases h.2 with h1 | ⟨g, cap, cur, rfl, hb', hgg, rest⟩
  · exact .inl h1
  · refine .inr ⟨g, cap, cur, rfl, hb', ?_, rest⟩
    rw [ho.block g (Array.getElem?_eq_some_iff.1 hgg).1 (hn g rfl)]
    exact hgg
theorem reads_lt {v : Value} {xs : List Value} (h : Reads w v xs) (hx : xs ≠ []) {g : Nat} (hg : v.ownBlock = some g) : g < w.heap.size := by
  obtain ⟨p, cap, rfl, _, h0 | ⟨blk, off, rfl, hlt, _⟩⟩ := h
  · exact absurd (List.eq_nil_of_length_eq_zero h0) hx
  · simp [Value.ownBlock] at hg; rw [← hg]; exact hlt
theorem Reads.only_ {v : Value} {xs : List Value} (h : Reads w v xs) (ho : Only S w w') (hn : ∀ g, v.ownBlock = some g → ¬ S g) : Reads w' v xs := by
  obtain ⟨p, cap, rfl, hl, h0 | ⟨blk, off, rfl, hlt, hc, hcell⟩⟩ := h
  · exact ⟨p, cap, rfl, hl, .inl h0⟩
  · refine ⟨_, cap, rfl, hl, .inr ⟨blk, off, rfl, Nat.lt_of_lt_of_le hlt ho.size, hc, fun i x hx => ?_⟩⟩
    rw [World.cell?_of_block (w := w) (a := ⟨blk, off + i, none⟩) (ho.block blk hlt (hn blk rfl))]
    exact hcell i x hx
end
end Go.Proofs.YtfpkeinknhijaaaGreat
