/- slices.Sorted of maps.Keys, and maps.Clone, at a map of accounts. -/
import Derived.Test.YtnofpbhpnhbbpaaShelf
import Derived.Test.YtnofpbhpnhbbpaaQuoC
import Derived.CallsIn
namespace Go.Proofs.Ytnofpbhpnhbbpaa
set_option linter.unusedVariables false
open Go.RowKit Go.Maps Go.Sort Go.Shelf

theorem sort_perm {a b : List (List UInt8)} (h : a.Perm b) : a.mergeSort leB = b.mergeSort leB := by
  have tr : ∀ a b c : List UInt8, leB a b = true → leB b c = true → leB a c = true := fun a b c h1 h2 => by simp only [leB, decide_eq_true_eq] at *; exact List.le_trans h1 h2
  have to : ∀ a b : List UInt8, (leB a b || leB b a) = true := fun a b => by simp only [leB, Bool.or_eq_true, decide_eq_true_eq]; exact List.le_total a b
  refine List.Perm.eq_of_pairwise (le := fun a b => leB a b = true) (fun a b _ _ h1 h2 => ?_) (List.pairwise_mergeSort tr to a) (List.pairwise_mergeSort tr to b) ((List.mergeSort_perm a leB).trans (h.trans (List.mergeSort_perm b leB).symm))
  simp only [leB, decide_eq_true_eq] at h1 h2
  exact List.le_antisymm h1 h2
theorem sortsM (m : Nat) : AnyZ.SortsIn Try.prog Try.sortedM_ren Fence.wide m :=
  ⟨fun blk off cap ss W hH hblk hsz => callsIn_wide.2 (AnyM.slices_Sort_string Try.sortM blk off cap ss W hH hblk hsz),
   fun p cap W => callsIn_wide.2 (AnyM.slices_Sort_string_none Try.sortM p cap W)⟩
theorem keys_any (mb : Option Nat) (W : World) : Calls Try.prog 29 #[.map mb] W fun e w' => e = .returned (.func (.func 40) #[] #[.pointer (some ⟨W.heap.size, 0, none⟩)]) ∧ w' = W.alloc (.cells #[.map mb] 59) :=
  callsIn_wide.1 (AnyZ.keys_in Try.keysM Fence.wide 5 trivial rfl mb W)
set_option maxHeartbeats 1000000 in
theorem sorted_any (b n : Nat) (m : List (List UInt8 × Acc)) (w : World) (hm : MapA w b n m) (hn : m.length ≤ 1000000) :
    Calls Try.prog 28 #[.func (.func 40) #[] #[.pointer (some ⟨w.heap.size, 0, none⟩)]] (w.alloc (.cells #[.map (some b)] 59)) fun e w' => ∃ v : Value, e = .returned v ∧
      Reads w' v (((mkeys m).mergeSort leB).map encStr) ∧ Below w.heap.size w w' := by
  have hown := hm.1
  have hbl := hown.lt
  have hsz : Maps.size (liftM accV m) = m.length := liftM_size m
  have hseq : SeqGives Fence.wide 2 Try.prog 40 #[.pointer (some ⟨w.heap.size, 0, none⟩)] encStr (fun ss => ss.Perm (strKeys (liftM accV m))) (Maps.size (liftM accV m)) (w.alloc (.cells #[.map (some b)] 59)) :=
    AnyZ.keys_gives (ρ := Try.keysM_ren) { Try.keysM with } Fence.wide _ trivial rfl (by omega) w.heap.size b n (liftM accV m) _ (by simp) (by simp) (by
      obtain ⟨es, clock, hb, Ft, hs, hD⟩ := hown
      exact ⟨es, clock, (Below.heap_alloc _ _ b hbl).trans hb, Ft, hs, hD⟩)
  have hc := callsIn_wide.1 (AnyZ.sorted_in Try.sortedM Fence.wide 5 trivial trivial trivial trivial rfl (by omega) (sortsM _) (enters_of Try.func39 (by kernel_rfl) rfl) 40 #[.pointer (some ⟨w.heap.size, 0, none⟩)] trivial (enters_of Try.func40 (by kernel_rfl) rfl) _ _ (by rw [hsz]; unfold maxLen; omega) (by rw [hsz]; omega) _ hseq)
  refine hc.mono ?_
  rintro e w' ⟨v, ss, rfl, hS, hrow, hnil, hb⟩
  have hS2 : ss.Perm (mkeys m) := by rw [← liftM_keys (val := accV)]; exact hS
  have hsort : ss.mergeSort (fun x y => decide (x ≤ y)) = (mkeys m).mergeSort leB := sort_perm hS2
  have hlen : ss.length = (((mkeys m).mergeSort leB).map encStr).length := by rw [List.length_map, (List.mergeSort_perm _ leB).length_eq, hS2.length_eq]
  rw [hsort] at hrow
  refine ⟨v, rfl, Reads.of_own (base := (w.alloc (.cells #[.map (some b)] 59)).heap.size) (e := 9) ?_ ?_, ((Below.refl _ w).alloc (Nat.le_refl _) _).trans (hb.mono (by simp))⟩
  · rw [← hlen]
    exact hrow
  · rw [← hlen, hS2.length_eq]
    unfold mkeys
    rw [List.length_map]
    omega
theorem clone_any (b n : Nat) (m : List (List UInt8 × Acc)) (w : World) (hm : MapA w b n m) :
    Calls Try.prog 31 #[.map (some b)] w fun e w' => e = .returned (.map (some w.heap.size)) ∧ MapA w' w.heap.size n m ∧ Below w.heap.size w w' := by
  have hcon := AnyW.maps_Clone_owns Try.cloneM 9 (Rv accV AccOk) b n (liftM accV m) w hm.1
  change Calls Try.prog 31 _ _ _ at hcon
  refine hcon.mono ?_
  rintro e w' ⟨rfl, h1, _, h2⟩
  exact ⟨rfl, hm.clone h1, h2⟩
end Go.Proofs.Ytnofpbhpnhbbpaa
