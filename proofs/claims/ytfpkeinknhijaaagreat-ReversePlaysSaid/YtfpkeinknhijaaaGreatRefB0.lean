/- Rows of strings: taking, dropping, appending. -/
import Derived.Test.YtfpkeinknhijaaaGreatRefA
import Derived.Test.YtfpkeinknhijaaaGreatIntO
import Derived.Test.YtfpkeinknhijaaaGreatSlc
namespace Go.Proofs.YtfpkeinknhijaaaGreat
set_option linter.unusedVariables false
open Go.RowKit Go.Maps Go.Sort

theorem insB_split (x : List UInt8) : ∀ (a : Nat) (o : List (List UInt8)), a ≤ o.length → (∀ y ∈ o.take a, y < x) → (a = o.length ∨ ∃ y, o[a]? = some y ∧ ¬ y < x) → insB x o = o.take a ++ x :: o.drop a
  | 0, [], _, _, _ => rfl
  | 0, y :: r, _, _, h => by
    rcases h with h | ⟨z, hz, hn⟩
    · simp at h
    · simp at hz
      subst hz
      unfold insB
      rw [if_neg hn]
      rfl
  | a + 1, [], ha, _, _ => by simp at ha
  | a + 1, y :: r, ha, hl, h => by
    have hy : y < x := hl y (by simp)
    unfold insB
    rw [if_pos hy, insB_split x a r (by simp at ha; omega) (fun z hz => hl z (by simp [hz])) (by simpa using h)]
    rfl
theorem insB_len (x : List UInt8) (o : List (List UInt8)) : (insB x o).length = o.length + 1 := by
  rw [(insB_perm x o).length_eq]; rfl
theorem isortB_snoc (l : List (List UInt8)) (x : List UInt8) : isortB (l ++ [x]) = insB x (isortB l) := by
  unfold isortB
  rw [List.foldl_append]
  rfl
theorem isortB_len (l : List (List UInt8)) : (isortB l).length = l.length := by
  rw [← isortB_is, List.length_mergeSort]
theorem step_append_reads {P : Program} {ops : Array Oper} {o : Oper} {a : Act} {w : World} {K : Act → World → Prop} {Q : Exit → Act → World → Prop} {E : Prop} (hgd : o.guard = none) (s x : Operand) (t : TypeId)
    (ho : o.op = .call { callee := .builtin .append, args := #[s, x], argTypes := #[t, t] })
    (base : Nat) (e : TypeId) (i : TypeInfo) (z : Value) (bytes : Nat) (ht : P.underlying t = some (.slice e)) (hi : P.info? e = some i) (hz : i.zero = some z)
    (hsize : i.size = 1) (hby : i.bytes = bytes) (hzs : z.cells.size = 1)
    (v : Value) (n : Nat) (xs : List Value) (hs : a.eval s = v) (hown : w.ownsRow base e 1 v n xs)
    (y : Value) (news : List Value) (hx : a.eval x = y) (hr : Reads w y news) (h1 : ∀ u ∈ news, u.oneCell' = true)
    (h63 : n + news.length ≤ maxLen) (hbytes : (n + news.length) * bytes ≤ 140737488355328) (hbase : base ≤ w.heap.size)
    (h : ∀ v' w', w'.ownsRow base e 1 v' (n + news.length) (xs ++ news) → w.grownBy w' v.ownBlock → (v'.ownBlock = v.ownBlock ∨ v'.ownBlock = some w.heap.size) → K (a.put o.dst v') w') :
    if Region.wanted o (yielded ops a.tmps) = true then Oper.wp P o a w K Q else E := by
  have hw : Region.wanted o (yielded ops a.tmps) = true := by simp [Region.wanted, hgd]
  rw [if_pos hw]
  exact wp_append_reads w s x t ho base e i z bytes ht hi hz hsize hby hzs v n xs hs hown y news hx hr h1 h63 hbytes hbase h
theorem row_cap1 {w : World} {base n cap : Nat} {p : Option Addr} {e : TypeId} {xs : List Value} (h : w.ownsRow base e 1 (.slice p n cap) n xs) : n ≤ cap := by
  rcases h.2 with ⟨he, h0⟩ | ⟨g, cap', row, he, _, _, hn, _⟩
  · omega
  · injection he with _ _ he3
    omega
theorem row_lt1 {w : World} {base g n cap : Nat} {e : TypeId} {xs : List Value} (h : w.ownsRow base e 1 (.slice (some ⟨g, 0, none⟩) n cap) n xs) : g < w.heap.size := (h.lt g rfl).2
theorem reads_drop {w : World} {base g cap : Nat} {e : TypeId} {U : List (List UInt8)} (h : w.ownsRow base e 1 (.slice (some ⟨g, 0, none⟩) U.length cap) U.length (U.map encStr)) (a : Nat) (hU : U.length ≤ 100000) : Reads w (.slice (some ⟨g, a, none⟩) (U.length - a) (cap - a)) ((U.drop a).map encStr) := by
  have hcap := row_cap1 h
  have hlt := row_lt1 h
  have hlim : cap ≤ maxLen := by
    rcases h.2 with ⟨he, _⟩ | ⟨g', cap', row, he, _, _, _, hc, _⟩
    · cases he
    · injection he with _ _ he3; omega
  refine ⟨_, cap - a, by rw [List.length_map, List.length_drop], by rw [List.length_map, List.length_drop]; unfold maxLen at hlim; omega, .inr ⟨g, a, rfl, hlt, by rw [List.length_map, List.length_drop]; omega, fun i y hy => ?_⟩⟩
  rw [List.getElem?_map, List.getElem?_drop, ← List.getElem?_map] at hy
  have hi := (List.getElem?_eq_some_iff.1 hy).1
  rw [List.length_map] at hi
  exact (h.cellAt (a + i) (by omega)).trans hy
theorem reads_take {w : World} {base g cap : Nat} {e : TypeId} {U : List (List UInt8)} (h : w.ownsRow base e 1 (.slice (some ⟨g, 0, none⟩) U.length cap) U.length (U.map encStr)) (a : Nat) (ha : a ≤ U.length) (hU : U.length ≤ 100000) : Reads w (.slice (some ⟨g, 0, none⟩) a cap) ((U.take a).map encStr) := by
  have hcap := row_cap1 h
  have hlt := row_lt1 h
  have hlim : cap ≤ maxLen := by
    rcases h.2 with ⟨he, _⟩ | ⟨g', cap', row, he, _, _, _, hc, _⟩
    · cases he
    · injection he with _ _ he3; omega
  have hl : ((U.take a).map encStr).length = a := by rw [List.length_map, List.length_take, Nat.min_eq_left ha]
  refine ⟨_, cap, by rw [hl], by rw [hl]; unfold maxLen at hlim; omega, .inr ⟨g, 0, rfl, hlt, by rw [hl]; omega, fun i y hy => ?_⟩⟩
  have hi := (List.getElem?_eq_some_iff.1 hy).1
  rw [hl] at hi
  rw [List.getElem?_map, List.getElem?_take, if_pos hi, ← List.getElem?_map] at hy
  rw [Nat.zero_add]
  exact (h.cellAt i (by omega)).trans hy
end Go.Proofs.YtfpkeinknhijaaaGreat
