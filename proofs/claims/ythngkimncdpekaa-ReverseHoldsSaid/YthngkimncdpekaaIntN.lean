/- New and Names of the program. -/
import Derived.Test.YthngkimncdpekaaIntS
import Derived.Sort.KeysCollected
import Derived.Sort.OwnSorted
namespace Go.Proofs.Ythngkimncdpekaa
set_option linter.unusedVariables false
open Go.RowKit Go.Maps Go.Sort

theorem new_bad (most seed : Int) (h : most < 1 ∨ 65536 < most) (w : World) :
    Calls Try.prog 54 #[.int .i64 most, .int .u64 seed] w fun e w' => e = .returned (.tuple #[.pointer none, .int .i64 2]) ∧ w = w' := by
  by_cases h1 : most < 1
  · go_enter Try.func54, Try.ntmps54
    go_wp2
    go_ret2
    exact ⟨rfl, rfl⟩
  · have h2 : 65536 < most := by omega
    clear h
    go_enter Try.func54, Try.ntmps54
    go_wp2
    go_ret2
    exact ⟨rfl, rfl⟩
def NewP (w : World) (most seed : Int) (e : Ending) (w' : World) : Prop := ∃ b O, e = .returned (.tuple #[.pointer (some ⟨b, 0, none⟩), .int .i64 0]) ∧ Tab w' b O most seed [] ∧ (∀ g, O g → w.heap.size ≤ g) ∧ Below w.heap.size w w'
theorem new_ok (most seed : Int) (h1 : 1 ≤ most) (h2 : most ≤ 65536) (s0 : 0 ≤ seed) (s1 : seed ≤ 18446744073709551615) (w : World) :
    Calls Try.prog 54 #[.int .i64 most, .int .u64 seed] w (NewP w most seed) := by
  have hB1 : Below w.heap.size w (w.alloc (.cells #[.int .i64 (-1), .int .i64 (-1)] 3)) := (Below.refl _ _).alloc (Nat.le_refl _) _
  have hB : Below w.heap.size w ((w.alloc (.cells #[.int .i64 (-1), .int .i64 (-1)] 3)).alloc (.cells (tbCells most seed (.slice (some ⟨w.heap.size, 0, none⟩) 2 2) (.slice none 0 0) (.slice none 0 0) 0) 145)) := hB1.alloc (by simp) _
  have hbk := Blk.alloc (Blk.new w 3 #[.int .i64 (-1), .int .i64 (-1)]) (.cells (tbCells most seed (.slice (some ⟨w.heap.size, 0, none⟩) 2 2) (.slice none 0 0) (.slice none 0 0) 0) 145)
  have hbx := Blk.new (w.alloc (.cells #[.int .i64 (-1), .int .i64 (-1)] 3)) 145 (tbCells most seed (.slice (some ⟨w.heap.size, 0, none⟩) 2 2) (.slice none 0 0) (.slice none 0 0) 0)
  rw [show (w.alloc (.cells #[.int .i64 (-1), .int .i64 (-1)] 3)).heap.size = w.heap.size + 1 by simp] at hbx
  have hEND : Hid (NewP w most seed (.returned (.tuple #[.pointer (some ⟨w.heap.size + 1, 0, none⟩), .int .i64 0])) ((w.alloc (.cells #[.int .i64 (-1), .int .i64 (-1)] 3)).alloc (.cells (tbCells most seed (.slice (some ⟨w.heap.size, 0, none⟩) 2 2) (.slice none 0 0) (.slice none 0 0) 0) 145))) := by
    have hch := Chains.fresh (hsN seed) (H := 2) (by decide) (nx := []) (l := []) rfl
    refine ⟨w.heap.size + 1, inO (w.heap.size + 1) w.heap.size (.slice none 0 0) (.slice none 0 0), rfl, ⟨w.heap.size, 2, _, _, [-1, -1], [], fun _ => [], ⟨hbx, ?_, World.ownsRow_nil _ _ _ _, Reads.nil _ _ _, rfl, by decide, by decide, by decide, by omega, by simp [Value.ownBlock], by simp [Value.ownBlock], by simp [Value.ownBlock], by simp [Value.ownBlock], fun g hg => by simp [Value.ownBlock] at hg, s0, s1, fun g hg => by simp [Value.ownBlock] at hg⟩, hch.congr (fun n hn => by cases hn), fun _ => Iff.rfl, by decide⟩, fun g hg => ?_, hB⟩
    · exact owns_of_block (L := [.int .i64 (-1), .int .i64 (-1)]) (Nat.zero_le _) hbk rfl (Nat.le_refl _) (by unfold maxLen; decide) rfl
    · rcases hg with h | h | h | h
      · omega
      · omega
      · simp [Value.ownBlock] at h
      · simp [Value.ownBlock] at h
  clear hB1 hB hbk hbx
  go_enter Try.func54, Try.ntmps54
  go_wp2
  go_ret2
  exact hEND.out

/-! ### Names -/
def liveTexts (l : Nms) : List (List UInt8) := (l.filter liveX).map (·.1)
def namesL (l : Nms) : List (List UInt8) := (liveTexts l).mergeSort leB
theorem liveTexts_len (l : Nms) : (liveTexts l).length = liveN l := by unfold liveTexts liveN; rw [List.length_map]
theorem namesL_len (l : Nms) : (namesL l).length = liveN l := by unfold namesL; rw [List.length_mergeSort, liveTexts_len]
theorem liveTexts_take {l : Nms} {k : Nat} (hk : k < l.length) : liveTexts (l.take (k + 1)) = liveTexts (l.take k) ++ (if liveB l k = true then [(nmAt l k).1] else []) := by
  have e : l.take (k + 1) = l.take k ++ [nmAt l k] := by rw [List.take_add_one, nmAt_get hk]; rfl
  unfold liveTexts
  rw [e, List.filter_append, List.map_append]
  congr 1
  have e2 : liveX (nmAt l k) = liveB l k := rfl
  rw [List.filter_cons, e2]
  split
  · simp
  · simp
theorem info_str : (Try.prog.info? 9).map (fun i => (i.zero, i.size, i.bytes)) = some (some (.string ⟨#[]⟩), 1, 16) := by kernel_rfl
def NamesP (w : World) (l : Nms) (e : Ending) (w' : World) : Prop := ∃ v', e = .returned v' ∧ w'.ownsRow w.heap.size 9 1 v' (namesL l).length ((namesL l).map encStr) ∧ Below w.heap.size w w'
set_option maxHeartbeats 2000000 in
set_option maxRecDepth 100000 in
theorem names_any {w : World} {b : Nat} {O : Nat → Prop} {most seed : Int} {l : Nms} (t : Tab w b O most seed l) (hm : 1 ≤ most) :
    Calls Try.prog 76 #[.pointer (some ⟨b, 0, none⟩)] w (NamesP w l) := by
  have HN := Lib.hid (none_no t.box hm)
  have hlow := t.low
  obtain ⟨hb, hc, lv, fv, hd, nx, ch, t1, t2, t3, t4⟩ := t
  have hslice : ∃ p cap, lv = .slice p l.length cap := by
    rcases t1.list.2 with ⟨e1, e2⟩ | ⟨g, cap, _, e1, _⟩
    · exact ⟨none, 0, by rw [e1, e2]⟩
    · exact ⟨_, _, e1⟩
  obtain ⟨p, cap, rfl⟩ := hslice
  obtain ⟨c0, c1, c2, c3, c4, c5⟩ := t1.cells
  obtain ⟨i0, hi, hz0, hz1, hz2⟩ := info_parts info_str
  have T1 := Lib.hid t1
  clear t1 t2 t3 t4 c0 c1 c2 c4 c5
  go_enter Try.func76, Try.ntmps76
  go_wp2_with fail
  refine HN.out.mono ?_
  rintro e w1 ⟨rfl, rfl⟩
  clear HN
  go_wp2_with fail
  go_loopg [3, 13] l.length (fun r v i wr => ∃ k : Nat, k ≤ l.length ∧ r + k = l.length ∧ i = .int .i64 k ∧ wr.ownsRow w.heap.size 9 1 v (liveTexts (l.take k)).length ((liveTexts (l.take k)).map encStr) ∧ Below w.heap.size w wr)
  case atStart => exact ⟨0, by omega, by omega, rfl, World.ownsRow_nil _ _ _ _, Below.refl _ _⟩
  case round =>
    obtain ⟨k, hk, hr, rfl, hown, hbl⟩ := hrel
    have HR := Lib.hid hr
    have HOWN := Lib.hid hown
    have HB := Lib.hid hbl
    have hsz := hbl.size
    clear hr hown hbl c3
    by_cases hlt : k < l.length
    · obtain ⟨g, cap2, he, hg, _, _⟩ := T1.out.lform (by omega)
      injection he with he1 _ he3
      subst he1 he3
      obtain ⟨n0, n1, n2⟩ := (T1.out.below HB.out).names hlt
      have hll : (liveTexts (l.take k)).length ≤ l.length := by
        have h1 := liveTexts_len (l.take k)
        have h2 := liveN_le (l.take k)
        rw [List.length_take] at h2
        omega
      have HT := Lib.hid (liveTexts_take hlt)
      have HB1 : Hid (Below w.heap.size w (wr.alloc (.cells #[.string ⟨(nmAt l k).1.toArray⟩, .int .i64 (nmAt l k).2, .int .i64 (nx.getD k 0)] 152))) := HB.out.alloc hsz _
      have HO1 := Lib.hid (HOWN.out.alloc (.cells #[.string ⟨(nmAt l k).1.toArray⟩, .int .i64 (nmAt l k).2, .int .i64 (nx.getD k 0)] 152))
      rcases Bool.eq_false_or_eq_true (liveB l k) with hv | hv
      · have hpos : 0 < (nmAt l k).2 := by unfold liveB at hv; simpa using hv
        have HNEW : Hid (liveTexts (l.take (k + 1)) = liveTexts (l.take k) ++ [(nmAt l k).1]) := by
          have := HT.out
          rw [if_pos hv] at this
          exact this
        clear HT hv
        generalize nx.getD k 0 = Y at *
        generalize (nmAt l k).1 = X at *
        generalize (nmAt l k).2 = r at *
        go_wp2_with (at_builtin; refine wpList_append_own _ rfl _ _ 42 rfl w.heap.size 9 i0 (.string ⟨#[]⟩) 1 16 Try.underlying42 hi hz0 hz1 hz2 rfl (by decide) _ _ _ rfl (HO1.out.alloc _) ⟨wr.heap.size + 1, 0, none⟩ 1 1 [encStr X] rfl rfl ?c1 ?c2 ?c3 ?c4 ?c5 ?_)
        case c2 => rfl
        case c3 => unfold maxLen; omega
        case c4 => omega
        case c5 => first | omega | (simp; omega)
        intro v' w3 hown' hg3 _
        have HB3 := Lib.hid (below_append HB1.out HB1.out.size HO1.out hg3)
        have HO3 : Hid (w3.ownsRow w.heap.size 9 1 v' (liveTexts (l.take (k + 1))).length ((liveTexts (l.take (k + 1))).map encStr)) := by
          rw [HNEW.out, List.length_append, List.map_append]
          exact hown'
        clear hown' hg3 HO1 HB1 hll
        go_wp2_with fail
        go_roundg (gk - 1)
        case measure => have := HR.out; omega
        case rel => exact ⟨k + 1, by omega, by have := HR.out; omega, by go_num, HO3.out, HB3.out⟩
      · have hpos : ¬ 0 < (nmAt l k).2 := by unfold liveB at hv; simpa using hv
        have HNEW : Hid (liveTexts (l.take (k + 1)) = liveTexts (l.take k)) := by
          have := HT.out
          rw [if_neg (by rw [hv]; decide), List.append_nil] at this
          exact this
        clear HT hv
        generalize nx.getD k 0 = Y at *
        generalize (nmAt l k).1 = X at *
        generalize (nmAt l k).2 = r at *
        go_wp2_with fail
        go_roundg (gk - 1)
        case measure => have := HR.out; omega
        case rel => exact ⟨k + 1, by omega, by have := HR.out; omega, by go_num, by rw [HNEW.out]; exact HO1.out, HB1.out⟩
    · obtain rfl : k = l.length := by omega
      have hown := HOWN.out
      rw [List.take_length] at hown
      have hll : (liveTexts l).length ≤ l.length := by
        have h1 := liveTexts_len l
        have h2 := liveN_le l
        omega
      have HRES : Hid (∀ (v' : Value) (w' : World), w'.ownsRow w.heap.size 9 1 v' (namesL l).length ((namesL l).map encStr) → Below w.heap.size w w' → NamesP w l (.returned v') w') := fun v' w' h1 h2 => ⟨v', rfl, h1, h2⟩
      rcases hown.2 with ⟨hnil, h0⟩ | ⟨g, cap2, cur, hv2, hbase, hblk, h1, h2, h3, h4⟩
      · have hemp : liveTexts l = [] := List.eq_nil_of_length_eq_zero h0
        have hN : namesL l = [] := by unfold namesL; rw [hemp]; simp
        rw [hN] at HRES
        subst hnil
        clear hown h0 hemp hN HOWN
        go_wp2_with fail
        refine ((Try.slices_Sort_string_none none 0 _).mono fun _ _ h => (⟨h.1, h.2.symm⟩ : _ ∧ wr = _)).mono ?_
        rintro e w' ⟨rfl, rfl⟩
        go_wp2_with fail
        go_ret
        exact HRES.out _ _ (World.ownsRow_nil _ _ _ _) HB.out
      · subst hv2
        have hH : Holds encStr wr g 0 (liveTexts l).toArray := holds_of_block hblk (by simpa using h4)
        have hgl : g < wr.heap.size := (Array.getElem?_eq_some_iff.1 hblk).1
        have hc := Lib.hid (Try.slices_Sort_string g 0 cap2 (liveTexts l) wr hH hgl (by omega))
        clear hown HOWN
        go_wp2_with (go_at_call 83; refine hc.out.mono ?_; rintro e w' ⟨rfl, nn, os, rfl⟩)
        go_ret
        have hfin := ownsRow_sorted (ss := liveTexts l) (ts := (liveTexts l).mergeSort leB) (n := nn) (os := os) (by simp) hbase hblk h1 h2 h3
        refine HRES.out _ _ ?_ (HB.out.grown (grownBy_sorted _) HB.out.size (fun j hj => by cases hj; omega))
        have e : (liveTexts l).length = (namesL l).length := by rw [namesL_len, liveTexts_len]
        unfold namesL at e ⊢
        rw [e] at hfin ⊢
        exact hfin
end Go.Proofs.Ythngkimncdpekaa
