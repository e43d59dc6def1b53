/- What came in: a call, a rule, a slice of calls. -/
import Derived.Deep.Slices
import Derived.Deep.Strs
import Derived.Deep.Fields
import Derived.ChangeSame
import Derived.Test.YtnofpbhpnhbbpaaHand
import Derived.Test.YtnofpbhpnhbbpaaRows
namespace Go.Proofs.Ytnofpbhpnhbbpaa
set_option linter.unusedVariables false
open Go Go.ChangeShapes Go.WideShapes Go.RowKit Go.Deep

/-- A call: what, bytes, a time, a name. -/
structure Qa where
  wh : Int
  by' : Int
  t : Int
  s : ByteArray
structure QaOk (x : Qa) : Prop where
  wh : (Lit.int .i64 x.wh).wf = true
  by' : (Lit.int .i64 x.by').wf = true
  t : (Lit.int .u64 x.t).wf = true
def QaAt (W : World) (blk o : Nat) (x : Qa) : Prop := W.cell? ⟨blk, o, none⟩ = some (.int .i64 x.wh) ∧ W.cell? ⟨blk, o + 1, none⟩ = some (.int .i64 x.by') ∧ W.cell? ⟨blk, o + 2, none⟩ = some (.int .u64 x.t) ∧ W.cell? ⟨blk, o + 3, none⟩ = some (.string x.s)
def QasOf (W : World) (q : Option Addr) (l : List Qa) : Prop := ∀ i x, l[i]? = some x → ∃ blk off, q = some ⟨blk, off, none⟩ ∧ blk < W.heap.size ∧ QaAt W blk (off + i * 4) x
theorem list4 {α : Type} {l : List α} (h : l.length = 4) : ∃ a b c d, l = [a, b, c, d] := by
  match l, h with
  | [a, b, c, d], _ => exact ⟨a, b, c, d, rfl⟩
theorem list3 {α : Type} {l : List α} (h : l.length = 3) : ∃ a b c, l = [a, b, c] := by
  match l, h with
  | [a, b, c], _ => exact ⟨a, b, c, rfl⟩
theorem addr_at (b o j : Nat) : (⟨b, o, none⟩ : Addr).add j = ⟨b, o + j, none⟩ := by
  unfold Addr.add
  split <;> simp_all
theorem spot_none {W : World} {a : Addr} {x : Value} (h : W.cell? a = some x) : a.spot = none ∧ a.block < W.heap.size := by
  refine ⟨?_, World.block_lt_of_cell? W a h⟩
  unfold World.cell? at h
  split at h
  · cases hs : a.spot with
    | none => rfl
    | some x => rw [hs] at h; simp at h
  · cases h
section
variable {H : Type} {enc : TypeId × Value → H} {W : World} {base : Nat} {spare : Nat → Bool} {held : Bool} {fuel : Nat} {cs : List Value} {x : DataW H × List MemPlace}
theorem field_of {fs : Array Field} {xs : List (DataW H × List MemPlace)} {n : Nat} (hf : ∀ (i : Nat) (f : Field), fs[i]? = some f → DataW.trod enc Try.prog W base spare held n f.type ((cs.drop f.offset).take (Try.prog.cellsOf f.type)) = xs[i]?)
    (i : Nat) {f : Field} {u : TypeId} {k : Value} {y : DataW H × List MemPlace} (h1 : fs[i]? = some f) (h2 : f.type = u) (h3 : f.offset = i) (h4 : Try.prog.cellsOf u = 1) (h5 : cs[i]? = some k) (h6 : xs[i]? = some y) : DataW.trod enc Try.prog W base spare held n u [k] = some y := by
  have := hf i f h1
  have e : (cs.drop i).take 1 = [k] := by
    obtain ⟨hl, rfl⟩ := List.getElem?_eq_some_iff.1 h5
    rw [List.drop_eq_getElem_cons hl]
    rfl
  rw [h2, h3, h4, h6, e] at this
  exact this
theorem act_of (h : DataW.trod enc Try.prog W base spare held fuel 54 cs = some x) : ∃ a : Qa, cs = [.int .i64 a.wh, .int .i64 a.by', .int .u64 a.t, .string a.s] ∧ QaOk a := by
  obtain ⟨xs, n, _, _, hl, hxl, hf⟩ := DataW.trod_struct Try.underlying54 h
  obtain ⟨k0, k1, k2, k3, rfl⟩ := list4 (hl.trans (by kernel_rfl))
  obtain ⟨y0, y1, y2, y3, rfl⟩ := list4 (show xs.length = 4 from hxl)
  have f0 := field_of hf 0 rfl (u := 3) rfl rfl (by kernel_rfl) rfl rfl
  have f1 := field_of hf 1 rfl (u := 3) rfl rfl (by kernel_rfl) rfl rfl
  have f2 := field_of hf 2 rfl (u := 28) rfl rfl (by kernel_rfl) rfl rfl
  have f3 := field_of hf 3 rfl (u := 9) rfl rfl (by kernel_rfl) rfl rfl
  obtain ⟨z0, e0, _, w0⟩ := DataW.trod_int Try.underlying3 f0
  obtain ⟨z1, e1, _, w1⟩ := DataW.trod_int Try.underlying3 f1
  obtain ⟨z2, e2, _, w2⟩ := DataW.trod_int Try.underlying28 f2
  obtain ⟨z3, e3, _⟩ := DataW.trod_string Try.underlying9 f3
  injection e0 with e0
  injection e1 with e1
  injection e2 with e2
  injection e3 with e3
  exact ⟨⟨z0, z1, z2, z3⟩, by rw [e0, e1, e2, e3], w0, w1, w2⟩
theorem rule_of (h : DataW.trod enc Try.prog W base spare held fuel 30 cs = some x) : ∃ a b c : Int, cs = [.int .u64 a, .int .i64 b, .int .i64 c] ∧ (Lit.int .u64 a).wf = true ∧ (Lit.int .i64 b).wf = true ∧ (Lit.int .i64 c).wf = true := by
  obtain ⟨xs, n, _, _, hl, hxl, hf⟩ := DataW.trod_struct Try.underlying30 h
  obtain ⟨k0, k1, k2, rfl⟩ := list3 (hl.trans (by kernel_rfl))
  obtain ⟨y0, y1, y2, rfl⟩ := list3 (show xs.length = 3 from hxl)
  have f0 := field_of hf 0 rfl (u := 28) rfl rfl (by kernel_rfl) rfl rfl
  have f1 := field_of hf 1 rfl (u := 3) rfl rfl (by kernel_rfl) rfl rfl
  have f2 := field_of hf 2 rfl (u := 3) rfl rfl (by kernel_rfl) rfl rfl
  obtain ⟨z0, e0, _, w0⟩ := DataW.trod_int Try.underlying28 f0
  obtain ⟨z1, e1, _, w1⟩ := DataW.trod_int Try.underlying3 f1
  obtain ⟨z2, e2, _, w2⟩ := DataW.trod_int Try.underlying3 f2
  injection e0 with e0
  injection e1 with e1
  injection e2 with e2
  exact ⟨z0, z1, z2, by rw [e0, e1, e2], w0, w1, w2⟩
variable {v : Value} {d : DataW H} {p : List MemPlace}
theorem open_act (hv : ∃ cs, v = .agg cs) (h : DataW.Trod enc Try.prog W base spare held 54 v d p) : ∃ a : Qa, v = .agg #[.int .i64 a.wh, .int .i64 a.by', .int .u64 a.t, .string a.s] ∧ QaOk a := by
  obtain ⟨cs, rfl⟩ := hv
  obtain ⟨fuel, hf⟩ := h
  obtain ⟨a, ha, ho⟩ := act_of hf
  refine ⟨a, ?_, ho⟩
  simp only [Value.cells] at ha
  rw [← ha]
theorem open_rule (hv : ∃ cs, v = .agg cs) (h : DataW.Trod enc Try.prog W base spare held 30 v d p) : ∃ a b c : Int, v = .agg #[.int .u64 a, .int .i64 b, .int .i64 c] ∧ (Lit.int .u64 a).wf = true ∧ (Lit.int .i64 b).wf = true ∧ (Lit.int .i64 c).wf = true := by
  obtain ⟨cs, rfl⟩ := hv
  obtain ⟨fuel, hf⟩ := h
  obtain ⟨a, b, c, ha, ho⟩ := rule_of hf
  refine ⟨a, b, c, ?_, ho⟩
  simp only [Value.cells] at ha
  rw [← ha]
open Classical in
noncomputable def qaAt (W : World) (a : Addr) : Qa := if h : ∃ x : Qa, (∀ b o, a = ⟨b, o, none⟩ → QaAt W b o x) ∧ QaOk x then Classical.choose h else ⟨0, 0, 0, ByteArray.empty⟩
theorem open_qas (hv : ∃ a n c, v = .slice a n c) (h : DataW.Trod enc Try.prog W base spare held 48 v d p) (hsz : ∀ n ∈ d.weights Try.prog 48, n ≤ reachBytes) :
    ∃ (l : List Qa) (q : Option Addr) (cap : Nat), v = .slice q l.length cap ∧ QasOf W q l ∧ l.length ≤ 140737488355328 ∧ ∀ x ∈ l, QaOk x := by
  obtain ⟨a0, n0, c0, rfl⟩ := hv
  obtain ⟨fuel, hf⟩ := h
  have hr := reachBytes_lt
  have h47 : (2 : Nat) ^ 47 = 140737488355328 := by decide
  rcases open_slice Try.underlying48 hf with ⟨hcs, hx⟩ | ⟨a, len, cap, m, n, D, Pl, hcs, hbase, hl, hm, hmm, hx, hi⟩
  · simp only [Value.cells] at hcs
    injection hcs with hcs
    rw [hcs]
    exact ⟨[], none, 0, rfl, fun i x hx => by simp at hx, by simp, fun x hx => by cases hx⟩
  · simp only [Value.cells] at hcs
    injection hcs with hcs
    rw [hcs]
    have hlm : len ≤ m := by rw [hmm]; split <;> omega
    have hd : d = .slice ((List.range len).map D) ((List.range (m - len)).map fun j => D (len + j)) := (Prod.mk.inj hx).1
    have hw2 : len ≤ 140737488355328 := by
      have hb : 1 ≤ Try.prog.bytesOf 54 := of_decide_eq_true (by kernel_rfl)
      have h0 := hsz ((len + (m - len)) * Try.prog.bytesOf 54) (by rw [hd]; simp [DataW.weights, Try.underlying48])
      have h1 : len * Try.prog.bytesOf 54 ≤ (len + (m - len)) * Try.prog.bytesOf 54 := Nat.mul_le_mul_right _ (by omega)
      have h2 : len ≤ len * Try.prog.bytesOf 54 := Nat.le_mul_of_pos_right _ hb
      omega
    have hC : Try.prog.cellsOf 54 = 4 := by kernel_rfl
    have key : ∀ i, i < len → ∃ x : Qa, (∀ b o, a.add (i * 4) = ⟨b, o, none⟩ → QaAt W b o x) ∧ QaOk x ∧ ∃ y, W.cell? (a.add (i * 4)) = some y := by
      intro i hil
      obtain ⟨cs', hc, ht'⟩ := hi i (by omega)
      rw [hC] at hc
      obtain ⟨_, hcl, hat⟩ := World.cells?_some hc
      obtain ⟨x, rfl, hok⟩ := act_of ht'
      refine ⟨x, fun b o e => ?_, hok, _, hat 0 (by simp)⟩
      rw [e] at hat
      have g0 := hat 0 (by simp)
      have g1 := hat 1 (by simp)
      have g2 := hat 2 (by simp)
      have g3 := hat 3 (by simp)
      simp only [addr_at] at g0 g1 g2 g3
      exact ⟨g0, g1, g2, g3⟩
    have pick : ∀ i, i < len → (∀ b o, a.add (i * 4) = ⟨b, o, none⟩ → QaAt W b o (qaAt W (a.add (i * 4)))) ∧ QaOk (qaAt W (a.add (i * 4))) := by
      intro i hil
      obtain ⟨x, h1, h2, _⟩ := key i hil
      have he : ∃ x : Qa, (∀ b o, a.add (i * 4) = ⟨b, o, none⟩ → QaAt W b o x) ∧ QaOk x := ⟨x, h1, h2⟩
      unfold qaAt
      rw [dif_pos he]
      exact Classical.choose_spec he
    refine ⟨(List.range len).map (fun i => qaAt W (a.add (i * 4))), some a, cap, by simp, ?_, by simpa using hw2, ?_⟩
    · intro i x hx
      rw [List.getElem?_map, Option.map_eq_some_iff] at hx
      obtain ⟨i', hi', rfl⟩ := hx
      have hil : i < len := by
        have := (List.getElem?_eq_some_iff.1 hi').1
        simpa using this
      obtain rfl : i' = i := by
        rw [List.getElem?_range hil] at hi'
        exact (Option.some.inj hi').symm
      have hsp : a.spot = none ∧ a.block < W.heap.size := by
        obtain ⟨_, _, _, y, hy⟩ := key 0 (by omega)
        rw [show a.add (0 * 4) = a from rfl] at hy
        exact spot_none hy
      obtain ⟨blk, off, sp⟩ := a
      obtain ⟨h2, h3⟩ := hsp
      simp only at h2
      subst h2
      exact ⟨blk, off, rfl, h3, (pick i' hil).1 _ _ (addr_at _ _ _)⟩
    · intro x hx
      obtain ⟨i, hi', rfl⟩ := List.mem_map.1 hx
      exact (pick i (List.mem_range.1 hi')).2
end
end Go.Proofs.Ytnofpbhpnhbbpaa
