/- slices.Repeat of one int. -/
import Derived.Test.YtfpkeinknhijaaaGreatShelf
import Derived.Test.YtfpkeinknhijaaaGreatBlk
import Derived.Deep.RegionLaw
import Derived.Laws.CopyOwn
import Derived.Deep.OwnRows
import Derived.Deep.LoopGhost
import Derived.ProofKit
import Derived.Handy
import Derived.Lib.Hide
import Derived.Lib.Walk
import Derived.Lib.EndianBits
import Derived.BigCall
import Derived.BigGuard
import Derived.IntWalk
namespace Go.Proofs.YtfpkeinknhijaaaGreat
set_option linter.unusedVariables false
open Go.RowKit Go.Maps Go.Sort

abbrev i64s (l : List Int) : List Value := l.map (Value.int .i64)
theorem info_int : (Tryz.prog.info? 3).map (fun i => (i.zero, i.size, i.bytes)) = some (some (.int .i64 0), 1, 8) := by kernel_rfl
theorem size_int : (Tryz.prog.info? 3).map (·.size) = some 1 := by kernel_rfl
/-- The row of Repeat when k cells are laid. -/
def repRow (N k : Nat) (x : Int) : List Value := List.replicate k (Value.int .i64 x) ++ List.replicate (N - k) (Value.int .i64 0)
theorem repRow_splice (N k m : Nat) (x : Int) (h : k + m ≤ N) : splice (repRow N k x) k (List.replicate m (Value.int .i64 x)) = repRow N (k + m) x := by
  unfold splice repRow
  rw [List.take_left' (by simp), List.drop_append, List.drop_of_length_le (by simp), List.length_replicate, List.nil_append, List.length_replicate, List.drop_replicate, ← List.append_assoc, List.replicate_append_replicate]
  congr 2
  omega
theorem repRow_len (N k : Nat) (x : Int) (h : k ≤ N) : (repRow N k x).length = N := by unfold repRow; simp; omega
theorem repRow_get (N k j : Nat) (x : Int) (h : j < k) : (repRow N k x)[j]? = some (.int .i64 x) := by
  unfold repRow
  rw [List.getElem?_append_left (by simpa using h), List.getElem?_replicate, if_pos h]
theorem addr_add0 (b j : Nat) : (⟨b, 0, none⟩ : Addr).add j = ⟨b, j, none⟩ := by
  unfold Addr.add
  split
  · subst_vars; rfl
  · simp
theorem madeCells_int (N : Nat) (x : Int) : Go.madeCells #[Value.int .i64 0] N = (repRow N 0 x).toArray := by
  unfold repRow
  apply Array.ext
  · simp [Go.madeCells]
  · intro i h1 h2
    simp [Go.madeCells, Nat.mod_one]
set_option maxHeartbeats 600000 in
set_option maxRecDepth 100000 in
theorem repeat_any (g0 c0 : Nat) (x : Int) (N : Nat) (hN : 1 ≤ N) (hN2 : N ≤ 1000000) (w : World) (hc : w.cell? ⟨g0, 0, none⟩ = some (.int .i64 x)) (hg0 : g0 < w.heap.size) :
    Calls Tryz.prog 87 #[.slice (some ⟨g0, 0, none⟩) 1 c0, .int .i64 N] w fun e w' => e = .returned (.slice (some ⟨w.heap.size, 0, none⟩) N N) ∧ w'.heap[w.heap.size]? = some (.cells ((List.replicate N x).map (Value.int .i64)).toArray 3 (0, 0)) ∧ Below w.heap.size w w' := by
  have hmul := Lib.hid (fun w => (Tryz.bits_Mul 1 N (by omega) (by omega) w).mono fun _ _ h => (⟨h.1, h.2.symm⟩ : _ ∧ w = _))
  have hmk : ∀ W : World, (Instr.makeSlice 40 (.int .i64 (N : Int)) (.int .i64 (N : Int))).run Tryz.prog W = .ok (.slice (some ⟨W.heap.size, 0, none⟩) N N) (W.alloc (.cells (Go.madeCells #[Value.int .i64 0] N) 3)) := fun W => run_make_row' (P := Tryz.prog) 40 3 (.int .i64 0) 8 Tryz.underlying40 info_int rfl .i64 .i64 N (by omega) (by omega) W
  have q1 : IntKind.u64.wrap (N : Int) = (N : Int) := wraps_u64 _ (by omega) (by omega)
  have q2 : IntKind.i64.wrap (N : Int) = (N : Int) := IntWalk.i64_in _ (by omega)
  go_enter Tryz.func87, Tryz.ntmps87
  go_wp2_with fail
  refine (hmul.out _).mono ?_
  rintro e w1 ⟨rfl, rfl⟩
  have q3 : 1 * N / 18446744073709551616 = 0 := by omega
  have q4 : 1 * N % 18446744073709551616 = N := by omega
  rw [q3, q4]
  have hN3 : (N : Int) ≤ 9223372036854775807 := by omega
  have hB : Below w.heap.size w (w.alloc (.cells (Go.madeCells #[Value.int .i64 0] N) 3)) := (Below.refl _ _).alloc (Nat.le_refl _) _
  have hG := Blk.new w 3 (Go.madeCells #[Value.int .i64 0] N)
  have hcur : Go.madeCells #[Value.int .i64 0] N = (repRow N 0 x).toArray := by
    exact madeCells_int N x
  have hG2 : (w.alloc (.cells (Go.madeCells #[Value.int .i64 0] N) 3)).heap[w.heap.size]? = some (.cells (repRow N 0 x).toArray 3 (0, 0)) := by rw [← hcur]; exact hG
  have hc2 : (w.alloc (.cells (Go.madeCells #[Value.int .i64 0] N) 3)).cell? ⟨g0, 0, none⟩ = some (.int .i64 x) := (hB.cell (p := ⟨g0, 0, none⟩) hg0).trans hc
  have hsrc : ∀ (j : Nat) (v : Value), [Value.int .i64 x][j]? = some v → (w.alloc (.cells (Go.madeCells #[Value.int .i64 0] N) 3)).cell? ((⟨g0, 0, none⟩ : Addr).add j) = some v := by
    intro j v hj
    match j, hj with
    | 0, hj => simp at hj; subst hj; exact hc2
    | j + 1, hj => simp at hj
  have HSRC := Lib.hid hsrc
  clear hsrc
  have HG2 := Lib.hid hG2
  have HC2 := Lib.hid hc2
  have HB := Lib.hid hB
  clear hG hG2 hcur hc2 hc hmul q3 q4 hB
  go_wp2_with (refine wpList_copy_splice rfl (.tmp 31) (.tmp 32) 40 40 rfl 3 Tryz.underlying40 size_int _ _ N N 1 c0 rfl rfl w.heap.size 0 (repRow N 0 x) 3 HG2.out [.int .i64 x] (Nat.min_eq_left hN).symm (fun _ => ⟨rfl, ⟨g0, 0, none⟩, rfl, HSRC.out⟩) (by rw [repRow_len _ _ _ (by omega)]; exact hN) (by intro v hv; simp at hv; rw [hv]; rfl) w.heap.size w HB.out (Nat.le_refl _) ?_; intro w2 HG3 hB3)
  have HG4 : Hid (w2.heap[w.heap.size]? = some (.cells (repRow N 1 x).toArray 3 (0, 0))) := by
    have h := HG3.out
    rw [show [Value.int IntKind.i64 x] = List.replicate 1 (Value.int .i64 x) from rfl, repRow_splice N 0 1 x (by omega)] at h
    exact h
  obtain ⟨g, hg⟩ : ∃ g, w.heap.size = g := ⟨_, rfl⟩
  rw [hg] at HG4 hB3
  simp only [hg]
  have HGE := Lib.hid hg
  clear HG2 HC2 HB HSRC HG3 hg0
  go_wp2_with fail
  go_loopg [8] (N - 1) (fun r i wr => ∃ k : Nat, 1 ≤ k ∧ k ≤ N ∧ r + k = N ∧ i = .int .i64 k ∧ Hid (wr.heap[g]? = some (.cells (repRow N k x).toArray 3 (0, 0))) ∧ Below g w wr)
  case atStart => exact ⟨1, by omega, hN, by omega, rfl, HG4, hB3⟩
  case round =>
    clear HG4 hB3
    obtain ⟨k, hk1, hk2, hr, rfl, HG, hB⟩ := hrel
    have HR : Hid (gk + k = N) := by unfold Hid; omega
    clear hr
    by_cases hlt : k < N
    · obtain ⟨m, hm⟩ : ∃ m, Nat.min k (N - k) = m := ⟨_, rfl⟩
      have hm1 : m ≤ k := hm ▸ Nat.min_le_left _ _
      have hm2 : m ≤ N - k := hm ▸ Nat.min_le_right _ _
      have hm3 : 1 ≤ m := by rw [← hm]; exact Nat.le_min.2 ⟨hk1, by omega⟩
      have hG := HG.out
      have hsrc : ∀ (j : Nat) (v : Value), (List.replicate m (Value.int .i64 x))[j]? = some v → wr.drew.cell? ((⟨g, 0, none⟩ : Addr).add j) = some v := by
        intro j v hj
        rw [List.getElem?_replicate] at hj
        split at hj
        · rename_i hjm
          rw [addr_add0, show wr.drew.cell? ⟨g, j, none⟩ = wr.cell? ⟨g, j, none⟩ from rfl, cell_of_row wr g j _ _ (0, 0) hG]
          rw [List.getElem?_toArray, repRow_get N k j x (by omega)]
          exact hj
        · cases hj
      have HSRC := Lib.hid hsrc
      have hB2 : Below g w wr.drew := hB.drew
      have HB := Lib.hid hB2
      have HM := Lib.hid hm
      have hne : ¬ N = k := by omega
      have qs : IntKind.i64.wrap ((k : Int) + (m : Int)) = (k : Int) + (m : Int) := IntWalk.i64_in _ (by omega)
      clear hsrc hG hB hB2 hm
      go_wp2_with fail
      go_region_law (refine step_copy_splice rfl (.tmp 41) (.tmp 44) 40 40 rfl 3 Tryz.underlying40 size_int (some ⟨g, k, none⟩) (some ⟨g, 0, none⟩) (N - k) (N - k) k N (by simp [Act.eval, Act.put]) (by simp [Act.eval, Act.put]) g k (repRow N k x) 3 HG.out (List.replicate m (Value.int .i64 x)) (by rw [List.length_replicate]; exact HM.out.symm) (fun _ => ⟨rfl, ⟨g, 0, none⟩, rfl, HSRC.out⟩) (by rw [repRow_len _ _ _ hk2, List.length_replicate]; omega) (by intro v hv; rw [List.mem_replicate] at hv; rw [hv.2]; rfl) g w HB.out (Nat.le_refl _) ?_; intro w4 HG4 hB4)
      have HG5 : Hid (w4.heap[g]? = some (.cells (repRow N (k + m) x).toArray 3 (0, 0))) := by
        have h := HG4.out
        rw [repRow_splice N k m x (by omega)] at h
        exact h
      clear HG4 qs
      go_wp2_with fail
      go_roundg (N - (k + m))
      case measure => have := HR.out; omega
      case rel => exact ⟨k + m, by omega, by omega, by omega, by go_num, HG5, hB4⟩
    · obtain rfl : k = N := by omega
      have HG6 : Hid (wr.heap[g]? = some (.cells ((List.replicate k x).map (Value.int .i64)).toArray 3 (0, 0))) := by
        have h := HG.out
        unfold repRow at h
        rw [Nat.sub_self, List.replicate_zero, List.append_nil] at h
        rw [List.map_replicate]
        exact h
      clear HG
      go_wp2_with fail
      go_ret
      rw [HGE.out]
      exact ⟨rfl, HG6.out, hB⟩
end Go.Proofs.YtfpkeinknhijaaaGreat
