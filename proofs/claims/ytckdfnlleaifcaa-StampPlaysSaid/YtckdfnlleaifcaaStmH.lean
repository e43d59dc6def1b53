/- Tags: the numbers of the tags of which something is known. -/
import Derived.Test.YtckdfnlleaifcaaStmG
import Derived.Test.YtckdfnlleaifcaaShelf
import Derived.Sort.OwnSortedInts
namespace Go.Proofs.Ytckdfnlleaifcaa
set_option linter.unusedVariables false
open Go.RowKit Go.Maps Go.Sort

def tagI (l : List Tg) : List Int := l.map fun x => (x.tag : Int)
theorem intInfo : (Try.prog.info? 3).map (fun i => (i.zero, i.size, i.bytes)) = some (some (.int .i64 0), 1, 8) := by kernel_rfl
theorem sort_tags {ss : List Nat} {l : List Tg} (h : ss.Perm (l.map (·.tag))) (hu : TUp l) : (ss.map (fun k : Nat => (k : Int))).mergeSort (fun x y => decide (x ≤ y)) = tagI l := by
  have tr : ∀ a b c : Int, decide (a ≤ b) = true → decide (b ≤ c) = true → decide (a ≤ c) = true := fun a b c h1 h2 => by simp only [decide_eq_true_eq] at *; omega
  have tot : ∀ a b : Int, (decide (a ≤ b) || decide (b ≤ a)) = true := fun a b => by simp only [Bool.or_eq_true, decide_eq_true_eq]; omega
  refine List.Perm.eq_of_pairwise (le := fun a b : Int => a ≤ b) (fun a b _ _ h1 h2 => by omega) ?_ ?_ ((List.mergeSort_perm _ _).trans ?_)
  · exact (List.pairwise_mergeSort tr tot _).imp (fun {a b} h => of_decide_eq_true h)
  · unfold tagI
    rw [List.pairwise_map]
    exact hu.imp (fun {a b} h => by omega)
  · unfold tagI
    have := h.map (fun k : Nat => (k : Int))
    rw [List.map_map] at this
    exact this
def TagsP (w : World) (l : List Int) (e : Ending) (w' : World) : Prop := ∃ v, e = .returned v ∧ w'.ownsRow w.heap.size 3 1 v l.length (l.map (Value.int .i64)) ∧ Below w.heap.size w w'
set_option maxHeartbeats 4000000 in
set_option maxRecDepth 100000 in
theorem tags_raw {w : World} {g gr now last b n : Nat} {own : Nat → Option Nat} {m : List (Nat × Option Nat)} {l : List Tg} (h : Sy w g gr now last b n own m l) (hn : n ≤ 100000) :
    Calls Try.prog 28 #[.pointer (some ⟨g, 0, none⟩)] w (TagsP w (tagI l)) := by
  have HC := Lib.hid (none_blk h.bk)
  have hap := h.mp.apart Try.underlying3
  have hlen : m.length ≤ 100000 := Nat.le_trans h.mp.size hn
  have hkeys := h.keys
  have hup := h.lok.up
  have HM := Lib.hid h.mp.1
  have hbl := h.mp.lt
  obtain ⟨c0, c1, c2, c3⟩ := h.cells
  have HTL : Hid (l.length ≤ 100000) := Nat.le_trans h.ln.1 hn
  have HK := Lib.hid hkeys
  have HU := Lib.hid hup
  have HAP := Lib.hid hap
  obtain ⟨i0, hi, hp0⟩ := Option.map_eq_some_iff.1 intInfo
  have hz0 : i0.zero = some (.int .i64 0) := congrArg (·.1) hp0
  have hz1 : i0.size = 1 := congrArg (·.2.1) hp0
  have hz2 : i0.bytes = 8 := congrArg (·.2.2) hp0
  clear h hkeys hup hap hp0
  go_enter Try.func28, Try.ntmps28
  go_wp2_with (first
    | (go_at_call 36; refine HC.out.mono ?_; rintro e w1 ⟨rfl, rfl⟩)
    | (at_range; refine wpList_range_own _ rfl _ 58 rfl 3 77 (int_keyed Try.underlying3) Try.underlying58 (Rv ptrV (fun _ => True)) b n _ rfl HM.out ?_; intro w0 hrg0 hg0 hs0)
    | go_in)
  go_frame
  go_loopw [3] (fun v wr => ∃ (left : Lit → Bool) (cnt : Nat) (ks : List Nat), wr.ranges Try.prog 3 (Rv ptrV (fun _ => True)) b w.heap.size n (liftM ptrV .i64 m) left cnt ∧ ks.Perm ((doneL .i64 left m).map (·.1)) ∧ wr.ownsRow (w.heap.size + 1) 3 1 v ks.length ((ks.map (fun k : Nat => (k : Int))).map (Value.int .i64)) ∧ Below w.heap.size w wr ∧ w.heap.size + 1 ≤ wr.heap.size)
    (fun _ wr => wr.rangeLeft b w.heap.size)
  case atStart => exact ⟨_, _, [], hrg0, by rw [doneL_start]; exact List.Perm.refl _, ⟨rfl, .inl ⟨rfl, rfl⟩⟩, (Below.refl _ _).grown hg0 (Nat.le_refl _) (fun k hk => by cases hk), by omega⟩
  case round =>
    obtain ⟨left, cnt, ks, hrg, hpm, hown, hbel, hsz⟩ := hrel
    have HRG := Lib.hid hrg
    have HPM := Lib.hid hpm
    have HOWN := Lib.hid hown
    have HBEL := Lib.hid hbel
    obtain ⟨p0, cap0, hv0⟩ := own_form hown
    subst hv0
    have hkl : ks.length ≤ m.length := by
      have := hpm.length_eq
      rw [List.length_map] at this
      rw [this]
      exact List.length_filter_le _ _
    clear hrg hpm hown hbel
    go_wp2_with (first
      | (at_next; refine wpList_next_v (val := ptrV) (q := .i64) (w := wr) rfl _ rfl Try.underlying3 w.heap.size left cnt none rfl HRG.out HAP.out ptrV_inj ?_ ?_)
      | go_in)
    · intro hdone
      have hpm2 := HPM.out
      rw [hdone, HK.out] at hpm2
      have hso := sort_tags hpm2 HU.out
      have hkl2 : ks.length = l.length := by
        have := hpm2.length_eq
        rw [List.length_map] at this
        exact this
      have htl : (tagI l).length = ks.length := by unfold tagI; rw [List.length_map, hkl2]
      have HDONE : Hid (∀ (v' : Value) (w' : World), w'.ownsRow w.heap.size 3 1 v' ks.length ((tagI l).map (Value.int .i64)) → Below w.heap.size w w' → TagsP w (tagI l) (.returned v') w') := fun v' w' h1 h2 => ⟨v', rfl, by rw [htl]; exact h1, h2⟩
      have HSO := Lib.hid hso
      have HTL2 := Lib.hid htl
      rcases HOWN.out.2 with ⟨hnil, h0⟩ | ⟨gg, cap2, cur, hv2, hbase, hblk, h1, h2, h3, h4⟩
      · have hTL : tagI l = [] := List.eq_nil_of_length_eq_zero (by rw [htl, h0])
        have HTL0 := Lib.hid hTL
        have hks : ks = [] := List.eq_nil_of_length_eq_zero h0
        subst hks
        injection hnil with hn1 hn2 hn3
        subst hn1 hn3
        clear hpm2 hso hkl2 htl HSO HTL2 hTL HPM HOWN HRG hdone
        go_wp2_with fail
        refine ((Try.slices_Sort_int_none none 0 _).mono fun _ _ h => (⟨h.1, h.2.symm⟩ : _ ∧ wr = _)).mono ?_
        rintro e w' ⟨rfl, rfl⟩
        go_wp2_with fail
        go_ret
        exact HDONE.out _ _ (by rw [HTL0.out]; exact World.ownsRow_nil _ _ _ _) HBEL.out
      · injection hv2 with hn1 hn2 hn3
        subst hn1 hn3
        have hH : Holds (Value.int .i64) wr gg 0 (ks.map (fun k : Nat => (k : Int))).toArray := holds_of_blockI hblk (by simpa using h4)
        have hgl : gg < wr.heap.size := (Array.getElem?_eq_some_iff.1 hblk).1
        have hc := Lib.hid (Try.slices_Sort_int gg 0 cap0 (ks.map (fun k : Nat => (k : Int))) wr hH hgl (by rw [List.length_map]; omega))
        rw [HSO.out, List.length_map] at hc
        have HX := Lib.hid (And.intro hbase (And.intro hblk (And.intro h1 (And.intro h2 h3))))
        clear hpm2 hso hkl2 htl HPM HOWN HRG hdone hH hgl hbase hblk h1 h2 h3 h4
        go_wp2_with (go_at_call 46; refine hc.out.mono ?_; rintro e w' ⟨rfl, nn, os, rfl⟩)
        go_ret
        obtain ⟨hbase, hblk, h1, h2, h3⟩ := HX.out
        have hfin := ownsRow_sortedI (ss := ks.map (fun k : Nat => (k : Int))) (ts := tagI l) (n := nn) (os := os) (by rw [List.length_map]; exact HTL2.out) hbase hblk (by rw [List.length_map]; exact h1) h2 h3
        rw [List.length_map] at hfin
        exact HDONE.out _ _ (ownsRow_low hfin (by omega)) (HBEL.out.grown (grownBy_sortedI _) HBEL.out.size (fun j hj => by cases hj; omega))
    · intro k c w1 left1 cnt1 hmem hperm hrg1 hlt hg1 hs1 hen
      have hne : (Value.slice p0 ks.length cap0).ownBlock ≠ some w.heap.size := fun e => by have := (HOWN.out.lt _ e).1; omega
      have HO1 := Lib.hid (HOWN.out.kept hg1 (.inr hne))
      have HR1 := Lib.hid hrg1
      have HB1 := Lib.hid (HBEL.out.grown hg1 HBEL.out.size (fun j hj => by cases hj; exact Nat.le_refl _))
      have HP1 : Hid ((ks ++ [k]).Perm ((doneL .i64 left1 m).map (·.1))) := by
        have h5 := hperm.map (·.1)
        rw [List.map_cons] at h5
        exact (List.perm_append_comm.trans (List.Perm.cons k HPM.out)).trans h5.symm
      have HLT := Lib.hid hlt
      have HLE := Lib.hid (HRG.out.left_eq)
      have hs2 : w.heap.size + 1 ≤ w1.heap.size := by omega
      clear hmem hperm hrg1 hg1 hlt HPM HOWN HRG HBEL hs1
      go_wp2_with (at_builtin; refine wpList_append_own _ rfl _ _ 64 rfl (w.heap.size + 1) 3 i0 (.int .i64 0) 1 8 Try.underlying64 hi hz0 hz1 hz2 rfl (by decide) _ _ _ rfl (HO1.out.alloc _) ⟨w1.heap.size, 0, none⟩ 1 1 [.int .i64 (k : Int)] rfl rfl ?c1 ?c2 ?c3 ?c4 ?c5 ?_)
      case c1 => exact cell_one_new _ _ _
      case c2 => exact one_int _ _
      case c3 => unfold maxLen; omega
      case c4 => omega
      case c5 => simp; omega
      intro v' w3 hown' hg3 _
      have hrow : ∀ z, (Value.slice p0 ks.length cap0).ownBlock = some z → w.heap.size + 1 ≤ z := fun z hz => (HO1.out.lt z hz).1
      have HR3 := Lib.hid ((HR1.out.alloc (.cells #[.int .i64 (k : Int)] 3)).kept hg3 (fun e => by have := hrow _ e.symm; omega) (fun e => by have := hrow _ e.symm; omega))
      have HB3 := Lib.hid (below_append HB1.out HB1.out.size (ownsRow_low HO1.out (by omega)) hg3)
      have HO3 : Hid (w3.ownsRow (w.heap.size + 1) 3 1 v' (ks ++ [k]).length (((ks ++ [k]).map (fun k : Nat => (k : Int))).map (Value.int .i64))) := by
        unfold Hid
        rw [List.length_append, List.map_append, List.map_append, List.map_map]
        exact hown'
      have hs3 : w.heap.size + 1 ≤ w3.heap.size := by have := hg3.size; simp at this; omega
      clear hown' hg3 HO1 HB1 HR1 hrow
      go_wp2_with fail
      go_roundw
      case rel => exact ⟨left1, cnt1, ks ++ [k], HR3.out, HP1.out, HO3.out, HB3.out, hs3⟩
      case measure => rw [HR3.out.left_eq, HLE.out]; exact HLT.out
theorem tags_any {w : World} {g gr now last n : Nat} {d : List Tg} {O : Nat → Prop} (h : St w g gr now last n d O) (hn : n ≤ 100000) :
    Calls Try.prog 28 #[.pointer (some ⟨g, 0, none⟩)] w (TagsP w (tagI d)) := by
  obtain ⟨b, own, m, l, h1, h2, rfl, h4⟩ := h
  have e : tagI (advD gr now l) = tagI l := by
    unfold tagI advD
    rw [List.map_map]
    rfl
  rw [e]
  exact tags_raw h1 hn
end Go.Proofs.Ytckdfnlleaifcaa
