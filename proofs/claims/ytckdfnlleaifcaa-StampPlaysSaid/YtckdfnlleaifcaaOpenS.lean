/- A slice of structs of three numbers (the last without a sign) that came in: each cell. -/
import Derived.Deep.Slices
import Derived.Deep.Strs
import Derived.Deep.Fields
import Derived.ChangeSame
import Derived.Test.YtckdfnlleaifcaaHand
import Derived.Test.YtckdfnlleaifcaaStmO
namespace Go.Proofs.Ytckdfnlleaifcaa
set_option linter.unusedVariables false
open Go Go.ChangeShapes Go.WideShapes Go.RowKit Go.Deep

def numAt (W : World) (a : Addr) : Int := match W.cell? a with
  | some (.int _ n) => n
  | _ => 0
theorem addr_at (b o j : Nat) : (⟨b, o, none⟩ : Addr).add j = ⟨b, o + j, none⟩ := by
  unfold Addr.add
  split <;> simp_all
theorem one_of {P : Program} {W : World} {H : Type} {enc : TypeId × Value → H} {base n : Nat} {spare : Nat → Bool} {held : Bool} {f : Field} {cs : List Value} {y : DataW H × List MemPlace} {a : Addr} {i : Nat} {q : IntKind}
    (hu : P.underlying f.type = some (.int q)) (ho : f.offset = i) (hk : P.cellsOf f.type = 1) (hl : i < cs.length) (hat : W.cell? (a.add i) = cs[i]?)
    (h : DataW.trod enc P W base spare held n f.type ((cs.drop f.offset).take (P.cellsOf f.type)) = some y) :
    W.cell? (a.add i) = some (.int q (numAt W (a.add i))) ∧ (Lit.int q (numAt W (a.add i))).wf = true := by
  rw [ho, hk] at h
  rw [List.drop_eq_getElem_cons hl] at h
  obtain ⟨z, hz, _, hw⟩ := DataW.trod_int hu h
  simp only [List.take_succ_cons, List.take_zero, List.cons.injEq, and_true] at hz
  have h2 : W.cell? (a.add i) = some (.int q z) := by rw [hat, List.getElem?_eq_getElem hl, hz]
  have h3 : numAt W (a.add i) = z := by unfold numAt; rw [h2]
  rw [h3]
  exact ⟨h2, hw⟩
section
variable {H : Type} {enc : TypeId × Value → H}
theorem open_acts {P : Program} {W : World} {base : Nat} {spare : Nat → Bool} {held : Bool} {t e : TypeId} {f0 f1 f2 : Field} {by8 : Nat} {v : Value} {d : DataW H} {p : List MemPlace}
    (ht : P.underlying t = some (.slice e)) (he : P.underlying e = some (.struct #[f0, f1, f2])) (hone : oneCellFields P #[f0, f1, f2] = true) (hC : P.cellsOf e = 3)
    (hu0 : P.underlying f0.type = some (.int .i64)) (hu1 : P.underlying f1.type = some (.int .i64)) (hu2 : P.underlying f2.type = some (.int .u64)) (hb : P.bytesOf e = by8) (hb0 : 1 ≤ by8)
    (hv : ∃ a n c, v = .slice a n c) (h : DataW.Trod enc P W base spare held t v d p) (hsz : ∀ n ∈ d.weights P t, n ≤ reachBytes) :
    ∃ (l : List SAc) (q : Option Addr) (cap : Nat), v = .slice q l.length cap ∧ SActsOf W q l ∧ l.length ≤ 140737488355328 ∧
      ∀ x ∈ l, (Lit.int .i64 x.1).wf = true ∧ (Lit.int .i64 x.2.1).wf = true ∧ (Lit.int .u64 x.2.2).wf = true := by
  obtain ⟨a0, n0, c0, rfl⟩ := hv
  obtain ⟨fuel, hf⟩ := h
  have hr := reachBytes_lt
  have h47 : (2 : Nat) ^ 47 = 140737488355328 := by decide
  rcases open_slice ht hf with ⟨hcs, hx⟩ | ⟨a, len, cap, m, n, D, Pl, hcs, hbase, hl, hm, hmm, hx, hi⟩
  · simp only [Value.cells] at hcs
    injection hcs with hcs
    rw [hcs]
    exact ⟨[], none, 0, rfl, fun i x hx => by simp at hx, by simp, fun x hx => by cases hx⟩
  · simp only [Value.cells] at hcs
    injection hcs with hcs
    rw [hcs]
    have hlm : len ≤ m := by rw [hmm]; split <;> omega
    have hd : d = .slice ((List.range len).map D) ((List.range (m - len)).map fun j => D (len + j)) := (Prod.mk.inj hx).1
    have hw1 : (len + (m - len)) * by8 ≤ reachBytes := by
      have := hsz ((len + (m - len)) * P.bytesOf e) (by rw [hd]; simp [DataW.weights, ht])
      rwa [hb] at this
    have hw2 : len ≤ 140737488355328 := by
      have h1 : len * by8 ≤ (len + (m - len)) * by8 := Nat.mul_le_mul_right _ (by omega)
      have h2 : len ≤ len * by8 := Nat.le_mul_of_pos_right _ hb0
      omega
    have key : ∀ i, i < len → (∀ j, j < 2 → W.cell? ((a.add (i * 3)).add j) = some (.int .i64 (numAt W ((a.add (i * 3)).add j))) ∧ (Lit.int .i64 (numAt W ((a.add (i * 3)).add j))).wf = true) ∧ W.cell? ((a.add (i * 3)).add 2) = some (.int .u64 (numAt W ((a.add (i * 3)).add 2))) ∧ (Lit.int .u64 (numAt W ((a.add (i * 3)).add 2))).wf = true := by
      intro i hil
      obtain ⟨cs', hc, ht'⟩ := hi i (by omega)
      rw [hC] at hc
      obtain ⟨_, hcl, hat⟩ := World.cells?_some hc
      obtain ⟨y0, y1, y2, k, _, _, t0, t1, t2⟩ := trod_struct3 he ht'
      obtain ⟨o0, k0⟩ := hone_of hone 0 f0 rfl
      obtain ⟨o1, k1⟩ := hone_of hone 1 f1 rfl
      obtain ⟨o2, k2⟩ := hone_of hone 2 f2 rfl
      refine ⟨fun j hj => ?_, one_of hu2 o2 k2 (by omega) (hat 2 (by omega)) t2⟩
      match j, hj with
      | 0, _ => exact one_of hu0 o0 k0 (by omega) (hat 0 (by omega)) t0
      | 1, _ => exact one_of hu1 o1 k1 (by omega) (hat 1 (by omega)) t1
    refine ⟨(List.range len).map (fun i => (numAt W ((a.add (i * 3)).add 0), numAt W ((a.add (i * 3)).add 1), numAt W ((a.add (i * 3)).add 2))), some a, cap, by simp, ?_, by simpa using hw2, ?_⟩
    · intro i x hx
      rw [List.getElem?_map, Option.map_eq_some_iff] at hx
      obtain ⟨i', hi', rfl⟩ := hx
      have hil : i < len := by
        have := (List.getElem?_eq_some_iff.1 hi').1
        simpa using this
      obtain rfl : i' = i := by
        rw [List.getElem?_range hil] at hi'
        exact (Option.some.inj hi').symm
      have hsp : a.spot = none ∧ a.block < W.heap.size := by
        have h1 := ((key 0 (by omega)).1 0 (by omega)).1
        rw [show (a.add (0 * 3)).add 0 = a from rfl] at h1
        refine ⟨?_, World.block_lt_of_cell? W a h1⟩
        unfold World.cell? at h1
        split at h1
        · cases hs : a.spot with
          | none => rfl
          | some x => rw [hs] at h1; simp at h1
        · cases h1
      obtain ⟨blk, off, sp⟩ := a
      obtain ⟨h2, h3⟩ := hsp
      simp only at h2
      subst h2
      have e0 := ((key i' hil).1 0 (by omega)).1
      have e1 := ((key i' hil).1 1 (by omega)).1
      have e2 := (key i' hil).2.1
      simp only [addr_at] at e0 e1 e2 ⊢
      exact ⟨blk, off, rfl, h3, e0, e1, e2⟩
    · intro x hx
      obtain ⟨i, hi', rfl⟩ := List.mem_map.1 hx
      have hil : i < len := List.mem_range.1 hi'
      exact ⟨((key i hil).1 0 (by omega)).2, ((key i hil).1 1 (by omega)).2, (key i hil).2.2⟩
end
end Go.Proofs.Ytckdfnlleaifcaa
