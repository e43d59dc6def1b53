/- The document's table: Valid, Has, Find, Len. -/
import Derived.Test.YtfpkeinknhijaaaGreatIntC
import Derived.Test.YtfpkeinknhijaaaGreatIntO
import Derived.BigRegion
namespace Go.Proofs.YtfpkeinknhijaaaGreat
set_option linter.unusedVariables false
open Go.RowKit Go.Maps Go.Sort

def rfCells : Nms → List Value
  | [] => []
  | x :: l => .string ⟨x.1.toArray⟩ :: .int .i64 x.2 :: rfCells l
theorem rfCells_len : ∀ l : Nms, (rfCells l).length = l.length * 2
  | [] => rfl
  | x :: l => by
    simp only [rfCells, List.length_cons, rfCells_len l]
    omega
theorem rfCells_get : ∀ {l : Nms} {i : Nat}, i < l.length → (rfCells l)[i * 2]? = some (.string ⟨(nmAt l i).1.toArray⟩) ∧ (rfCells l)[i * 2 + 1]? = some (.int .i64 (nmAt l i).2)
  | [], _, h => by simp at h
  | x :: l, 0, _ => by simp [rfCells, nmAt]
  | x :: l, i + 1, h => by
    have := rfCells_get (l := l) (i := i) (by simp at h; omega)
    rw [show (i + 1) * 2 = i * 2 + 1 + 1 by omega]
    simp only [rfCells, nmAt, List.getD_cons_succ, List.getElem?_cons_succ]
    exact this
theorem rfCells_one : ∀ (l : Nms), ∀ u ∈ rfCells l, u.oneCell' = true
  | [], u, h => by cases h
  | x :: l, u, h => by
    simp only [rfCells, List.mem_cons] at h
    rcases h with rfl | rfl | h
    · rfl
    · rfl
    · exact rfCells_one l u h
/-- The document's list of names. -/
abbrev Rf (w : World) (B : Nat) (p : Option Addr) (cap : Nat) (l : Nms) : Prop := w.ownsRow B 109 2 (.slice p l.length cap) l.length (rfCells l)
theorem Rf.at {w : World} {B g cap : Nat} {l : Nms} (h : Rf w B (some ⟨g, 0, none⟩) cap l) {i : Nat} (hi : i < l.length) : w.cell? ⟨g, i * 2, none⟩ = some (.string ⟨(nmAt l i).1.toArray⟩) ∧ w.cell? ⟨g, i * 2 + 1, none⟩ = some (.int .i64 (nmAt l i).2) := by
  obtain ⟨g0, g1⟩ := rfCells_get hi
  exact ⟨(h.cellAt _ (by omega)).trans g0, (h.cellAt _ (by omega)).trans g1⟩
theorem Rf.ptr {w : World} {B cap : Nat} {p : Option Addr} {l : Nms} (h : Rf w B p cap l) (hl : 0 < l.length) : ∃ g, p = some ⟨g, 0, none⟩ ∧ g < w.heap.size := by
  obtain ⟨g, cap', he, _, hlt⟩ := h.form hl
  injection he with he1 _ _
  exact ⟨g, he1, hlt⟩

theorem rvalid_any (s : ByteArray) (w : World) :
    Calls Tryz.prog 37 #[.string s] w fun e w' => e = .returned (.bool (validB s.data.toList)) ∧ w = w' := by
  by_cases h1 : 1 ≤ s.size
  · by_cases h2 : s.size ≤ 64
    · have hv : Hid (validB s.data.toList = true) := by unfold Hid validB; simp; omega
      have h3 : (1 : Int) ≤ s.size := by omega
      have h4 : (s.size : Int) ≤ 64 := by omega
      go_enter Tryz.func37, Tryz.ntmps37
      go_wp2
      go_ret
      exact ⟨by rw [hv.out]; rfl, rfl⟩
    · have hv : Hid (validB s.data.toList = false) := by unfold Hid validB; simp; omega
      have h3 : (1 : Int) ≤ s.size := by omega
      have h4 : ¬ (s.size : Int) ≤ 64 := by omega
      go_enter Tryz.func37, Tryz.ntmps37
      go_wp2
      go_ret
      exact ⟨by rw [hv.out]; rfl, rfl⟩
  · have hv : Hid (validB s.data.toList = false) := by unfold Hid validB; simp; omega
    have h3 : ¬ (1 : Int) ≤ s.size := by omega
    go_enter Tryz.func37, Tryz.ntmps37
    go_wp2
    go_ret
    exact ⟨by rw [hv.out]; rfl, rfl⟩
section
variable {w : World} {B cap : Nat} {p : Option Addr} {l : Nms} (h : Rf w B p cap l) (hl : l.length ≤ 100000) (most : Int)
include h hl
theorem rhas_any (n : Int) :
    Calls Tryz.prog 61 #[.agg #[.int .i64 most, .slice p l.length cap], .int .i64 n] w fun e w' => e = .returned (.bool (hasM l n)) ∧ Below w.heap.size w w' := by
  have HB : Hid (Below w.heap.size w (w.alloc (.cells #[.int .i64 most, .slice p l.length cap] 31))) := (Below.refl _ _).alloc (Nat.le_refl _) _
  by_cases h0 : 0 ≤ n
  · obtain ⟨k, rfl⟩ := Int.eq_ofNat_of_zero_le h0
    by_cases hk : k < l.length
    · obtain ⟨g, rfl, hg⟩ := Rf.ptr h (by omega)
      have c1 := (Rf.at (ownsRow_below h HB.out) hk).2
      have hM : Hid (hasM l (k : Int) = decide (0 < (nmAt l k).2)) := by unfold Hid hasM liveB; simp
      clear h
      generalize (nmAt l k).2 = r at *
      go_enter Tryz.func61, Tryz.ntmps61
      by_cases hr : 0 < r
      · go_wp2_with fail
        go_ret
        exact ⟨by rw [hM.out, decide_eq_true hr]; rfl, HB.out⟩
      · go_wp2_with fail
        go_ret
        exact ⟨by rw [hM.out, decide_eq_false (by omega)]; rfl, HB.out⟩
    · have hM : Hid (hasM l (k : Int) = false) := by
        unfold Hid hasM liveB
        rw [Int.toNat_natCast, nmAt_out (by omega)]
        simp
      clear h
      go_enter Tryz.func61, Tryz.ntmps61
      go_wp2_with fail
      go_ret
      exact ⟨by rw [hM.out]; rfl, HB.out⟩
  · have hM : Hid (hasM l n = false) := by unfold Hid hasM; rw [decide_eq_false h0]; rfl
    clear h
    go_enter Tryz.func61, Tryz.ntmps61
    go_wp2_with fail
    go_ret
    exact ⟨by rw [hM.out]; rfl, HB.out⟩
theorem rfind_any (hd : Distinct l) (s : ByteArray) :
    Calls Tryz.prog 36 #[.agg #[.int .i64 most, .slice p l.length cap], .string s] w fun e w' => e = .returned (.int .i64 (idxI (findN l s.data.toList))) ∧ Below w.heap.size w w' := by
  have HB : Hid (Below w.heap.size w (w.alloc (.cells #[.int .i64 most, .slice p l.length cap] 31))) := (Below.refl _ _).alloc (Nat.le_refl _) _
  have HR := Lib.hid (ownsRow_below h HB.out)
  have HD := Lib.hid hd
  have hbx := Blk.new w 31 #[.int .i64 most, .slice p l.length cap]
  have hb1 := Blk.cell hbx 1
  simp only [List.getElem?_toArray, List.getElem?_cons_zero, List.getElem?_cons_succ] at hb1
  have hsz : l.length ≤ 100000 := hl
  clear h hd hbx
  go_enter Tryz.func36, Tryz.ntmps36
  go_wp2_with fail
  generalize w.alloc (.cells #[.int .i64 most, .slice p l.length cap] 31) = W at *
  go_loopg [5] l.length (fun r i wr => ∃ k : Nat, k ≤ l.length ∧ r + k = l.length ∧ i = .int .i64 k ∧ Hid (∀ m, m < k → liveB l m = true → (nmAt l m).1 ≠ s.data.toList) ∧ wr = W)
  case atStart => exact ⟨0, by omega, by omega, rfl, fun m hm => by omega, rfl⟩
  case round =>
    obtain ⟨k, hk, hr, rfl, HN, rfl⟩ := hrel
    have HK := Lib.hid hr
    clear hr
    by_cases hlt : k < l.length
    · obtain ⟨g, rfl, hg⟩ := Rf.ptr HR.out (by omega)
      obtain ⟨n0, n1⟩ := Rf.at HR.out hlt
      by_cases hv : 0 < (nmAt l k).2
      · by_cases he : (nmAt l k).1 = s.data.toList
        · have hF : Hid (findN l s.data.toList = some k) := findN_of HD.out (by unfold liveB; rw [decide_eq_true hv]) he
          have hne : ((⟨(nmAt l k).1.toArray⟩ : ByteArray).toList == s.toList) = true := by
            rw [mk_toList, he, ByteArray.toList_eq]; simp
          clear he HN
          generalize (⟨(nmAt l k).1.toArray⟩ : ByteArray) = S at *
          generalize (nmAt l k).2 = r at *
          go_wp2_with fail
          go_ret
          exact ⟨by rw [hF.out]; rfl, HB.out⟩
        · have HN2 : Hid (∀ m, m < k + 1 → liveB l m = true → (nmAt l m).1 ≠ s.data.toList) := fun m hm hm2 => by
            rcases Nat.lt_or_ge m k with h1 | h1
            · exact HN.out m h1 hm2
            · obtain rfl : m = k := by omega
              exact he
          have hne : ((⟨(nmAt l k).1.toArray⟩ : ByteArray).toList == s.toList) = false := by
            rw [mk_toList, ByteArray.toList_eq, beq_eq_false_iff_ne]; simpa using he
          clear he HN
          generalize (⟨(nmAt l k).1.toArray⟩ : ByteArray) = S at *
          generalize (nmAt l k).2 = r at *
          go_wp2_with fail
          go_roundg (gk - 1)
          case measure => have := HK.out; omega
          case rel => exact ⟨k + 1, by omega, by have := HK.out; omega, by go_num, HN2, rfl⟩
      · have HN2 : Hid (∀ m, m < k + 1 → liveB l m = true → (nmAt l m).1 ≠ s.data.toList) := fun m hm hm2 => by
          rcases Nat.lt_or_ge m k with h1 | h1
          · exact HN.out m h1 hm2
          · obtain rfl : m = k := by omega
            unfold liveB at hm2
            rw [decide_eq_true_eq] at hm2
            exact absurd hm2 hv
        clear HN
        generalize (⟨(nmAt l k).1.toArray⟩ : ByteArray) = S at *
        generalize (nmAt l k).2 = r at *
        go_wp2_with fail
        go_roundg (gk - 1)
        case measure => have := HK.out; omega
        case rel => exact ⟨k + 1, by omega, by have := HK.out; omega, by go_num, HN2, rfl⟩
    · have hF : Hid (findN l s.data.toList = none) := by
        cases hf : findN l s.data.toList with
        | none => rfl
        | some m =>
          obtain ⟨h1, h2⟩ := findN_some hf
          exact absurd h2 (HN.out m (by have := live_lt h1; omega) h1)
      clear HN
      go_wp2_with fail
      go_ret
      exact ⟨by rw [hF.out]; rfl, HB.out⟩
theorem rlen_any :
    Calls Tryz.prog 30 #[.agg #[.int .i64 most, .slice p l.length cap]] w fun e w' => e = .returned (.int .i64 (liveN l)) ∧ Below w.heap.size w w' := by
  have HB : Hid (Below w.heap.size w (w.alloc (.cells #[.int .i64 most, .slice p l.length cap] 31))) := (Below.refl _ _).alloc (Nat.le_refl _) _
  have HR := Lib.hid (ownsRow_below h HB.out)
  have hbx := Blk.new w 31 #[.int .i64 most, .slice p l.length cap]
  have hb1 := Blk.cell hbx 1
  simp only [List.getElem?_toArray, List.getElem?_cons_zero, List.getElem?_cons_succ] at hb1
  clear h hbx
  go_enter Tryz.func30, Tryz.ntmps30
  go_wp2_with fail
  generalize w.alloc (.cells #[.int .i64 most, .slice p l.length cap] 31) = W at *
  go_loopg [3, 4] l.length (fun r c i wr => ∃ k c' : Nat, k ≤ l.length ∧ r + k = l.length ∧ c' ≤ k ∧ i = .int .i64 k ∧ c = .int .i64 c' ∧ Hid (liveN (l.take k) = c') ∧ wr = W)
  case atStart => exact ⟨0, 0, by omega, by omega, by omega, rfl, rfl, rfl, rfl⟩
  case round =>
    obtain ⟨k, c', hk, hr, hc', rfl, rfl, HN, rfl⟩ := hrel
    have HK := Lib.hid hr
    clear hr
    by_cases hlt : k < l.length
    · obtain ⟨g, rfl, hg⟩ := Rf.ptr HR.out (by omega)
      obtain ⟨n0, n1⟩ := Rf.at HR.out hlt
      have HT : Hid (liveN (l.take (k + 1)) = c' + if liveB l k = true then 1 else 0) := by
        have e : l.take (k + 1) = l.take k ++ [nmAt l k] := by rw [List.take_add_one, nmAt_get hlt]; rfl
        unfold Hid
        rw [e, liveN_append, liveN_one, HN.out]
        rfl
      by_cases hv : 0 < (nmAt l k).2
      · have HT2 : Hid (liveN (l.take (k + 1)) = c' + 1) := by
          have := HT.out
          rw [if_pos (by unfold liveB; rw [decide_eq_true hv])] at this
          exact this
        clear HT HN
        generalize (nmAt l k).2 = r at *
        go_wp2_with fail
        go_roundg (gk - 1)
        case measure => have := HK.out; omega
        case rel => exact ⟨k + 1, c' + 1, by omega, by have := HK.out; omega, by omega, by go_num, by go_num, HT2, rfl⟩
      · have HT2 : Hid (liveN (l.take (k + 1)) = c') := by
          have := HT.out
          rw [if_neg (by unfold liveB; rw [decide_eq_false hv]; decide)] at this
          exact this
        clear HT HN
        generalize (nmAt l k).2 = r at *
        go_wp2_with fail
        go_roundg (gk - 1)
        case measure => have := HK.out; omega
        case rel => exact ⟨k + 1, c', by omega, by have := HK.out; omega, by omega, by go_num, rfl, HT2, rfl⟩
    · obtain rfl : k = l.length := by omega
      have hF : Hid (liveN l = c') := by have := HN.out; rwa [List.take_length] at this
      clear HN
      go_wp2_with fail
      go_ret
      exact ⟨by rw [hF.out]; rfl, HB.out⟩
end
end Go.Proofs.YtfpkeinknhijaaaGreat
