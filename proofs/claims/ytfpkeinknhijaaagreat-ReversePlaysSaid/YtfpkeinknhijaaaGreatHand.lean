/- The wrap of a law's row that keeps the world's shape and what is laid; slices of strings that came in. -/
import Derived.HandedShaped
import Derived.LaidMore
import Derived.Stop.Joined
import Derived.SliceStrings
import Derived.ChangeSlices
import Derived.Lay
import Derived.Test.YtfpkeinknhijaaaGreatStrs
namespace Go.Proofs.YtfpkeinknhijaaaGreat
set_option linter.unusedVariables false
open Go Go.ChangeShapes Go.WideShapes Go.RowKit

section
variable {H : Type} {enc : TypeId × Value → H}
theorem returns_of_law {a : Assume} {C : Checked} {os : Os} {f : FuncId} {fn : Func} {s : ChangeSpec} {conds : List PathCond} {apart fresh handsOn again : Bool} {X : World → Array Value → Prop}
    (hX : ∀ (w w' : World) (args : Array Value), w.heap = w'.heap → X w args → X w' args)
    (own : ownKnob C.prog.godebug = none) (started : os.Started) (noInit : C.prog.inits.idxOf? f = none) (hfn : C.prog.funcs[f]? = some fn)
    (witness : ∃ (w : World) (tape : Tape) (i : Input), w.os = os ∧ (w.forCall tape i).Shaped C.prog ∧ i.vars = [] ∧ Input.okWide C.prog (w.forCall tape i) .any w.heap.size f i ∧
      ((s.pre enc C.prog fn conds apart (w.forCall tape i).memory i.args ∧ X (w.forCall tape i).memory i.args) ∧ sizedMet enc C.prog fn (OpenSpec.ofChange s) apart (w.forCall tape i).memory i.args) ∧ a.holds C.prog (lone (Frame.enter C.prog f i.args .normal) [] (w.forCall tape i)))
    (contract : ∀ (W : World) (base : Nat) (args : Array Value) (ds gs : List (DataW H)) (before : List MemPlace),
      (∀ (j : Nat) t v, fn.params[j]? = some t → args[j]? = some v → Value.okWide C.prog W .any base t v) →
      DataW.Whole enc C.prog fn.params.toList s.vars apart W args.toList ds gs before →
      (DataW.weightsEach C.prog (fn.params.toList ++ s.plain.varTypes C.prog) (ds ++ gs)).all (· ≤ reachBytes) = true → X W args → W.ShapedOpen C.prog →
      Calls C.prog f args W fun e W' => ∃ v, e = .returned v ∧ s.post enc C.prog fn apart fresh handsOn again W args v W') :
    ReturnsInHanded a C os f .any (fun w args => (s.pre enc C.prog fn conds apart w args ∧ X w args) ∧ sizedMet enc C.prog fn (OpenSpec.ofChange s) apart w args) (s.post enc C.prog fn apart fresh handsOn again) := by
  refine returnsInHanded_of_calls own started noInit witness ?_
  intro w tape i _ hsh _ hok hpre hholds
  obtain ⟨_, _, _, fn', hfn', _, _, _, _, hval⟩ := hok
  have e : fn' = fn := Option.some.inj (hfn'.symm.trans hfn)
  subst e
  obtain ⟨⟨⟨ds, gs, before, hw, hc⟩, hx⟩, hz⟩ := hpre
  have hw' := DataW.Whole.of_heap (w' := w.forCall tape i) (by rfl) hw
  refine (contract (w.forCall tape i) w.heap.size i.args ds gs before hval hw' (hz.weights hw) (hX _ _ _ (by rfl) hx) hsh).mono fun e W' ⟨v, he, hp⟩ => ?_
  subst he
  exact ChangeSpec.post_blind hp

theorem weights_all {P : Program} {e : TypeId} : ∀ {l : List (DataW H)} {d : DataW H}, d ∈ l → ∀ n ∈ d.weights P e, n ∈ DataW.weightsAll P e l
  | [], _, h, _, _ => by cases h
  | x :: r, d, h, n, hn => by
    simp only [DataW.weightsAll, List.mem_append]
    rcases List.mem_cons.1 h with rfl | h
    · exact .inl hn
    · exact .inr (weights_all h n hn)

/-- A []string that came in reads as a list of strings. -/
theorem open_strs {P : Program} {W : World} {base : Nat} {spare : Nat → Bool} {held : Bool} {t e : TypeId} {v : Value} {d : DataW H} {p : List MemPlace}
    (ht : P.underlying t = some (.slice e)) (he : P.underlying e = some .string) (hc : P.cellsOf e = 1) (hb : P.bytesOf e = 16)
    (hv : ∃ a n c, v = .slice a n c) (h : DataW.Trod enc P W base spare held t v d p) (hsz : ∀ n ∈ d.weights P t, n ≤ reachBytes) :
    ∃ l : List (List UInt8), Reads W v (l.map encStr) ∧ l.length * 16 ≤ 140737488355328 ∧ ∀ x ∈ l, x.length ≤ 140737488355328 := by
  obtain ⟨a0, n0, c0, rfl⟩ := hv
  obtain ⟨fuel, hf⟩ := h
  have hr := reachBytes_lt
  have h47 : (2 : Nat) ^ 47 = 140737488355328 := by decide
  rcases open_strings ht he hc hf with ⟨hcs, hx⟩ | ⟨a, len, cap, ss, hcs, hbase, hl, hm, hz, hx, hcell, hws⟩
  · simp only [Value.cells] at hcs
    injection hcs with hcs
    rw [hcs]
    exact ⟨[], Reads.nil _ _ _, by simp, fun x hx => by cases hx⟩
  · simp only [Value.cells] at hcs
    injection hcs with hcs
    rw [hcs]
    have hlen : len ≤ ss.length := by rw [hz]; split <;> omega
    have hd : d = .slice (strs (ss.take len)) (strs (ss.drop len)) := (Prod.mk.inj hx).1
    have hw1 : (len + (ss.length - len)) * 16 ≤ reachBytes := by
      have := hsz ((len + (ss.length - len)) * P.bytesOf e) (by rw [hd]; simp [DataW.weights, ht, strs]; left; rw [Nat.min_eq_left hlen])
      rwa [hb] at this
    refine ⟨(ss.take len).map (·.data.toList), ⟨some a, cap, ?_, ?_, ?_⟩, ?_, ?_⟩
    · simp [Nat.min_eq_left hlen]
    · simp; omega
    · rcases Nat.eq_zero_or_pos len with h0 | h0
      · left; simp [h0]
      · right
        have hsp : a.spot = none ∧ a.block < W.heap.size := by
          have h1 := hcell 0 (by omega)
          rw [show a.add 0 = a from rfl] at h1
          refine ⟨?_, World.block_lt_of_cell? W a h1⟩
          unfold World.cell? at h1
          split at h1
          · cases hs : a.spot with
            | none => rfl
            | some x => rw [hs] at h1; simp at h1
          · cases h1
        obtain ⟨blk, off, sp⟩ := a
        obtain ⟨h2, h3⟩ := hsp
        simp only at h2
        subst h2
        refine ⟨blk, off, rfl, h3, by simp; omega, fun i x hi => ?_⟩
        simp only [List.map_map, List.getElem?_map, Option.map_eq_some_iff] at hi
        obtain ⟨s, hs, rfl⟩ := hi
        rw [List.getElem?_take] at hs
        split at hs
        · rename_i hil
          have h4 := hcell i (by omega)
          rw [show ((⟨blk, off, none⟩ : Addr).add i) = ⟨blk, off + i, none⟩ from by unfold Addr.add; split <;> simp_all] at h4
          rw [h4, List.getD_eq_getElem?_getD, hs]
          simp [encStr]
        · cases hs
    · simp; omega
    · intro x hx2
      obtain ⟨s, hs, rfl⟩ := List.mem_map.1 hx2
      have := hsz s.data.toList.length (by
        rw [hd]
        simp only [DataW.weights, ht, List.mem_cons, List.mem_append]
        right; left
        refine weights_all (d := .lit (.string s.data.toList)) ?_ _ (by simp [DataW.weights])
        exact List.mem_map.2 ⟨s, hs, rfl⟩)
      omega

/-- A slice of integers that came in reads as a list of numbers. -/
theorem open_intl {P : Program} {W : World} {base : Nat} {spare : Nat → Bool} {held : Bool} {t e : TypeId} {k : IntKind} {by8 : Nat} {v : Value} {d : DataW H} {p : List MemPlace}
    (ht : P.underlying t = some (.slice e)) (he : P.underlying e = some (.int k)) (hc : P.cellsOf e = 1) (hb : P.bytesOf e = by8) (hb0 : 1 ≤ by8)
    (hv : ∃ a n c, v = .slice a n c) (h : DataW.Trod enc P W base spare held t v d p) (hsz : ∀ n ∈ d.weights P t, n ≤ reachBytes) :
    ∃ l : List Int, Reads W v (l.map (Value.int k)) ∧ l.length * by8 ≤ 140737488355328 ∧ ∀ x ∈ l, (Lit.int k x).wf = true := by
  obtain ⟨a0, n0, c0, rfl⟩ := hv
  obtain ⟨fuel, hf⟩ := h
  have hr := reachBytes_lt
  have h47 : (2 : Nat) ^ 47 = 140737488355328 := by decide
  rcases open_ints ht he hc hf with ⟨hcs, hx⟩ | ⟨a, len, cap, ss, hcs, hbase, hl, hm, hz, hx, hcell, hws⟩
  · simp only [Value.cells] at hcs
    injection hcs with hcs
    rw [hcs]
    exact ⟨[], Reads.nil _ _ _, by simp, fun x hx => by cases hx⟩
  · simp only [Value.cells] at hcs
    injection hcs with hcs
    rw [hcs]
    have hlen : len ≤ ss.length := by rw [hz]; split <;> omega
    have hd : d = .slice (lits k (ss.take len)) (lits k (ss.drop len)) := (Prod.mk.inj hx).1
    have hw1 : (len + (ss.length - len)) * by8 ≤ reachBytes := by
      have := hsz ((len + (ss.length - len)) * P.bytesOf e) (by rw [hd]; simp [DataW.weights, ht, lits]; left; rw [Nat.min_eq_left hlen])
      rwa [hb] at this
    have hw2 : len * by8 ≤ 140737488355328 := by
      have : len * by8 ≤ (len + (ss.length - len)) * by8 := Nat.mul_le_mul_right _ (by omega)
      omega
    have hw3 : len ≤ 140737488355328 := Nat.le_trans (Nat.le_mul_of_pos_right _ hb0) hw2
    refine ⟨ss.take len, ⟨some a, cap, ?_, ?_, ?_⟩, ?_, ?_⟩
    · simp [Nat.min_eq_left hlen]
    · simp; omega
    · rcases Nat.eq_zero_or_pos len with h0 | h0
      · left; simp [h0]
      · right
        have hsp : a.spot = none ∧ a.block < W.heap.size := by
          have h1 := hcell 0 (by omega)
          rw [show a.add 0 = a from rfl] at h1
          refine ⟨?_, World.block_lt_of_cell? W a h1⟩
          unfold World.cell? at h1
          split at h1
          · cases hs : a.spot with
            | none => rfl
            | some x => rw [hs] at h1; simp at h1
          · cases h1
        obtain ⟨blk, off, sp⟩ := a
        obtain ⟨h2, h3⟩ := hsp
        simp only at h2
        subst h2
        refine ⟨blk, off, rfl, h3, by simp; omega, fun i x hi => ?_⟩
        simp only [List.getElem?_map, Option.map_eq_some_iff] at hi
        obtain ⟨s, hs, rfl⟩ := hi
        rw [List.getElem?_take] at hs
        split at hs
        · rename_i hil
          have h4 := hcell i (by omega)
          rw [show ((⟨blk, off, none⟩ : Addr).add i) = ⟨blk, off + i, none⟩ from by unfold Addr.add; split <;> simp_all] at h4
          rw [h4, List.getD_eq_getElem?_getD, hs]
          rfl
        · cases hs
    · rw [List.length_take, Nat.min_eq_left hlen]; exact hw2
    · exact fun x hx2 => hws x (List.mem_of_mem_take hx2)
end
end Go.Proofs.YtfpkeinknhijaaaGreat
