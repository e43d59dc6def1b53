/- The document's Names. -/
import Derived.Test.YtfpkeinknhijaaaGreatRefB
namespace Go.Proofs.YtfpkeinknhijaaaGreat
set_option linter.unusedVariables false
open Go.RowKit Go.Maps Go.Sort

def RNames (w : World) (l : Nms) (e : Ending) (w' : World) : Prop := ∃ p cap, e = .returned (.slice p (namesL l).length cap) ∧ w'.ownsRow w.heap.size 9 1 (.slice p (namesL l).length cap) (namesL l).length ((namesL l).map encStr) ∧ Below w.heap.size w w'
set_option maxHeartbeats 2000000 in
set_option maxRecDepth 100000 in
theorem rnames_any {w : World} {B cap : Nat} {p : Option Addr} {l : Nms} (h : Rf w B p cap l) (hl : l.length ≤ 100000) (most : Int) :
    Calls Tryz.prog 31 #[.agg #[.int .i64 most, .slice p l.length cap]] w (RNames w l) := by
  have HB : Hid (Below w.heap.size w (w.alloc (.cells #[.int .i64 most, .slice p l.length cap] 31))) := (Below.refl _ _).alloc (Nat.le_refl _) _
  have HR := Lib.hid (ownsRow_below h HB.out)
  have hbx := Blk.new w 31 #[.int .i64 most, .slice p l.length cap]
  have hA : w.heap.size < (w.alloc (.cells #[.int .i64 most, .slice p l.length cap] 31)).heap.size := by simp
  obtain ⟨i0, hi, hz0, hz1, hz2⟩ := info_parts info_str
  have HBX := Lib.hid hbx
  clear h hbx
  go_enter Tryz.func31, Tryz.ntmps31
  go_wp2_with fail
  generalize w.alloc (.cells #[.int .i64 most, .slice p l.length cap] 31) = W at *
  go_loopg [3, 4] l.length (fun r v i wr => ∃ k : Nat, k ≤ l.length ∧ r + k = l.length ∧ i = .int .i64 k ∧ wr.ownsRow W.heap.size 9 1 v (liveTexts (l.take k)).length ((liveTexts (l.take k)).map encStr) ∧ Below W.heap.size W wr)
  case atStart => exact ⟨0, by omega, by omega, rfl, World.ownsRow_nil _ _ _ _, Below.refl _ _⟩
  case round =>
    obtain ⟨k, hk, hr, rfl, hown, hbl⟩ := hrel
    have HK := Lib.hid hr
    have HOWN := Lib.hid hown
    have HBL := Lib.hid hbl
    have hsz := hbl.size
    have hb1 := Blk.cell (Blk.below HBX.out hbl hA) 1
    simp only [List.getElem?_toArray, List.getElem?_cons_zero, List.getElem?_cons_succ] at hb1
    clear hr hown hbl
    by_cases hlt : k < l.length
    · obtain ⟨g, rfl, hg⟩ := Rf.ptr HR.out (by omega)
      obtain ⟨n0, n1⟩ := Rf.at (ownsRow_below HR.out HBL.out) hlt
      have hll : (liveTexts (l.take k)).length ≤ l.length := by
        have h1 := liveTexts_len (l.take k)
        have h2 := liveN_le (l.take k)
        rw [List.length_take] at h2
        omega
      have HT := Lib.hid (liveTexts_take hlt)
      rcases Bool.eq_false_or_eq_true (liveB l k) with hv | hv
      · have hpos : 0 < (nmAt l k).2 := by unfold liveB at hv; simpa using hv
        have HNEW : Hid (liveTexts (l.take (k + 1)) = liveTexts (l.take k) ++ [(nmAt l k).1]) := by
          have := HT.out
          rw [if_pos hv] at this
          exact this
        clear HT hv
        generalize (nmAt l k).1 = X at *
        generalize (nmAt l k).2 = r at *
        go_wp2_with (at_builtin; refine wpList_append_own _ rfl _ _ 36 rfl W.heap.size 9 i0 (.string ⟨#[]⟩) 1 16 Tryz.underlying36 hi hz0 hz1 hz2 rfl (by decide) _ _ _ rfl (HOWN.out.alloc _) ⟨wr.heap.size, 0, none⟩ 1 1 [encStr X] rfl rfl ?c1 ?c2 ?c3 ?c4 ?c5 ?_)
        case c1 => intro j' u hj'; rw [addr_add0]; exact (Blk.cell (Blk.new wr 9 #[encStr X]) j').trans (by simpa using hj')
        case c2 => exact one_strings [X]
        case c3 => unfold maxLen; omega
        case c4 => omega
        case c5 => simp; omega
        intro v' w3 hown' hg3 _
        have HB3 := Lib.hid (below_append HBL.out hsz HOWN.out hg3)
        have HO3 : Hid (w3.ownsRow W.heap.size 9 1 v' (liveTexts (l.take (k + 1))).length ((liveTexts (l.take (k + 1))).map encStr)) := by
          rw [HNEW.out, List.length_append, List.map_append]
          exact hown'
        clear hown' hg3 HOWN HBL hll
        go_wp2_with fail
        go_roundg (gk - 1)
        case measure => have := HK.out; omega
        case rel => exact ⟨k + 1, by omega, by have := HK.out; omega, by go_num, HO3.out, HB3.out⟩
      · have hpos : ¬ 0 < (nmAt l k).2 := by unfold liveB at hv; simpa using hv
        have HNEW : Hid (liveTexts (l.take (k + 1)) = liveTexts (l.take k)) := by
          have := HT.out
          rw [if_neg (by rw [hv]; decide), List.append_nil] at this
          exact this
        clear HT hv
        generalize (nmAt l k).1 = X at *
        generalize (nmAt l k).2 = r at *
        go_wp2_with fail
        go_roundg (gk - 1)
        case measure => have := HK.out; omega
        case rel => exact ⟨k + 1, by omega, by have := HK.out; omega, by go_num, by rw [HNEW.out]; exact HOWN.out, HBL.out⟩
    · obtain rfl : k = l.length := by omega
      have hown := HOWN.out
      rw [List.take_length] at hown
      have hll : (liveTexts l).length ≤ 100000 := by
        have h1 := liveTexts_len l
        have h2 := liveN_le l
        omega
      obtain ⟨p3, c3, rfl⟩ := owns_form HOWN.out
      rw [List.take_length] at HOWN ⊢
      have HS := Lib.hid (sorted_any p3 c3 (liveTexts l) wr (Reads.of_own (by rw [List.length_map]; exact HOWN.out) (by rw [List.length_map]; omega)) hll)
      have HE : Hid (∀ v w', w'.ownsRow wr.heap.size 9 1 v (isortB (liveTexts l)).length ((isortB (liveTexts l)).map encStr) → Below wr.heap.size wr w' → RNames w l (.returned v) w') := fun v w' h1 h2 => by
        rw [← isortB_is] at h1
        change w'.ownsRow wr.heap.size 9 1 v (namesL l).length ((namesL l).map encStr) at h1
        obtain ⟨p8, c8, rfl⟩ := owns_form h1
        exact ⟨p8, c8, rfl, ownsRow_low h1 (by omega), (HB.out.trans (HBL.out.mono (by omega))).trans (h2.mono (by omega))⟩
      clear hown
      go_wp2_with fail
      refine HS.out.mono ?_
      rintro e w5 ⟨v5, rfl, o5, b5⟩
      have HF := Lib.hid (HE.out _ _ o5 b5)
      clear o5 b5 HS HE
      go_wp2_with fail
      go_ret
      exact HF.out
end Go.Proofs.YtfpkeinknhijaaaGreat
