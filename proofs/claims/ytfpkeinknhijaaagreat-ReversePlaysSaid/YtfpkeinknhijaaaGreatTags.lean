/- The contract of key.Tags: the different ones of some tags in order, or the error. -/
import Derived.Test.YtfpkeinknhijaaaGreatShelf
import Derived.Test.YtfpkeinknhijaaaGreatRows
import Derived.Test.YtfpkeinknhijaaaGreatStrs
import Derived.Test.YtfpkeinknhijaaaGreatTagsP
import Derived.WalkKit
import Derived.ProofKit
import Derived.OpenShut
import Derived.Handy
import Derived.Lib.Hide
import Derived.Maps.RangeWalk
import Derived.Maps.OwnOps
import Derived.Maps.OwnSet
import Derived.Sort.KeysCollected
import Derived.Sort.OwnSorted
import Derived.Maps.AppendAt
namespace Go.Proofs.YtfpkeinknhijaaaGreat
set_option linter.unusedVariables false
open Go.RowKit Go.Maps Go.Sort Go.WideMaps Go.WideElems

theorem tags_info : (Tryz.prog.info? 9).map (fun i => (i.zero, i.size, i.bytes)) = some (some (.string ⟨#[]⟩), 1, 16) := by kernel_rfl
theorem tags_law : Keyed Tryz.prog 9 := string_keyed Tryz.underlying9

theorem tagOk_cases (x : Bt) : (x.length = 0 ∧ tagOk x = false) ∨ (1 ≤ x.length ∧ x.length ≤ 64 ∧ tagOk x = true) ∨ (64 < x.length ∧ tagOk x = false) := by
  unfold tagOk
  by_cases h0 : x.length = 0
  · exact .inl ⟨h0, decide_eq_false (by omega)⟩
  · by_cases h1 : x.length ≤ 64
    · exact .inr (.inl ⟨by omega, h1, decide_eq_true (by omega)⟩)
    · exact .inr (.inr ⟨by omega, decide_eq_false (by omega)⟩)

set_option maxHeartbeats 400000 in
theorem validTag_any (x : Bt) (w : World) :
    Calls Tryz.prog 76 #[.string ⟨x.toArray⟩] w fun e w' => e = .returned (.bool (tagOk x)) ∧ w = w' := by
  have hsz : (⟨x.toArray⟩ : ByteArray).size = x.length := by show x.toArray.size = _; simp
  rcases tagOk_cases x with ⟨h, hv⟩ | ⟨h, h2, hv⟩ | ⟨h, hv⟩
  all_goals
    have HV := Lib.hid hv
    have h' : 0 < x.length ∨ x.length = 0 := by omega
    have h3 : x.length < 1 ∨ 1 ≤ x.length := by omega
    clear hv
    go_enter Tryz.func76, Tryz.ntmps76
    go_wp2
    go_ret
    rw [HV.out]
    refine ⟨?_, rfl⟩
    first | rfl | (simp; omega)

set_option maxHeartbeats 4000000 in
set_option maxRecDepth 100000 in
theorem keyTags_any (v : Value) (l : List Bt) (w : World) (h : Reads w v (l.map encStr)) (hl : l.length ≤ 1000000) :
    Calls Tryz.prog 62 #[v] w fun e w' => ∃ u, e = .returned (.tuple #[u, .int .i64 (kTags l).2]) ∧ w'.ownsRow w.heap.size 9 1 u (kTags l).1.length ((kTags l).1.map encStr) ∧ Below w.heap.size w w' := by
  obtain ⟨p, cap, rfl, hl2, h2⟩ := h
  rw [List.length_map] at h2 ⊢
  clear hl2
  have hmm := @run_makeMap Tryz.prog
  obtain ⟨i0, hi, hz0, hz1, hz2⟩ := info_parts tags_info
  have hcells : ∀ i x, l[i]? = some x → ∃ blk off, p = some ⟨blk, off, none⟩ ∧ blk < w.heap.size ∧ w.cell? ⟨blk, off + i, none⟩ = some (.string ⟨x.toArray⟩) := by
    intro i x hx
    rcases h2 with h0 | ⟨blk, off, hp, hb, _, hc⟩
    · rw [List.eq_nil_of_length_eq_zero h0] at hx; cases hx
    · exact ⟨blk, off, hp, hb, hc i _ (encStr_getElem l i x hx)⟩
  have HC := Lib.hid hcells
  clear h2 hcells
  go_enter Tryz.func62, Tryz.ntmps62
  go_wp2
  go_loopw [12] (fun i wr => ∃ k : Nat, k ≤ l.length ∧ i = .int .i64 k ∧ Hid ((l.take k).all tagOk = true) ∧ wr.ownsMap Tryz.prog 9 unitElem w.heap.size k (seenOf (l.take k)) ∧ Below w.heap.size w wr ∧ w.heap.size + 1 ≤ wr.heap.size) (fun i _ => l.length - (intOf i).toNat)
  case atStart => exact ⟨0, Nat.zero_le _, rfl, rfl, by exact World.ownsMap_made _ _ _ _, (Below.refl _ _).alloc (Nat.le_refl _) _, by simp⟩
  case round =>
    obtain ⟨k, hk, rfl, HA, hown, hbl, hws⟩ := hrel
    by_cases hlt : k < l.length
    · obtain ⟨x, hx⟩ : ∃ x, l[k]? = some x := ⟨l[k], List.getElem?_eq_getElem hlt⟩
      obtain ⟨blk, off, rfl, HBLK, hcell0⟩ := HC.out k x hx
      have hcell : wr.cell? ⟨blk, off + k, none⟩ = some (.string ⟨x.toArray⟩) := by
        rw [hbl.cell (p := ⟨blk, off + k, none⟩) HBLK]; exact hcell0
      have htk := take_snoc l k x hx
      clear hcell0
      rcases Bool.eq_false_or_eq_true (tagOk x) with hv | hv
      · have hxl : x.length ≤ 64 := by rcases tagOk_cases x with ⟨_, h⟩ | ⟨_, h, _⟩ | ⟨_, h⟩ <;> simp_all
        have HA2 := Lib.hid (all_snoc l k x hx HA.out hv)
        have hkey : keyOf Tryz.prog 9 (.string ⟨x.toArray⟩) = some (.string x) := by
          have := keyOf_string_mk (s := (⟨x.toArray⟩ : ByteArray)) Tryz.underlying9 (by show x.toArray.size ≤ maxLen; unfold maxLen; simp; omega)
          simpa using this
        have HTK := Lib.hid htk
        have HKEY := Lib.hid hkey
        clear hx htk HA hkey
        go_wp2_with (first
          | (go_at_call 76; refine (validTag_any _ _).mono ?_; rintro e w' ⟨rfl, rfl⟩)
          | (at_mapUpdate; refine wpList_mapUpdate_own _ rfl _ _ _ 126 rfl 9 127 tags_law Tryz.underlying126 (unitElem (H := Unit)) w.heap.size k _ rfl hown (by unfold maxLen; omega) _ _ _ rfl rfl HKEY.out _ [] unitElem_mk ?_; intro w1 hown1 hgrow1))
        go_roundw
        case rel =>
          refine ⟨k + 1, by omega, by go_num, HA2, by rw [HTK.out, seenOf_snoc]; exact hown1, hbl.grown hgrow1 (by omega) (fun j hj => by cases hj; exact Nat.le_refl _), ?_⟩
          have := hgrow1.size
          omega
        case measure => simp [intOf]; omega
      · have HR := Lib.hid (kTags_bad l k x hx hv)
        clear hx htk
        go_wp2_with (first | (go_at_call 76; refine (validTag_any _ _).mono ?_; rintro e w' ⟨rfl, rfl⟩))
        go_ret2
        rw [HR.out]
        exact ⟨_, rfl, World.ownsRow_nil _ _ _ _, hbl⟩
    · obtain rfl : k = l.length := by omega
      rw [List.take_length] at HA hown
      have hfine := kTags_fine l HA.out
      have hsize := seenOf_size l
      have hul := kUniq_length l
      by_cases hle : (kUniq l).length ≤ 16
      · rw [if_pos hle] at hfine
        have HS := Lib.hid hsize
        have HF := Lib.hid hfine
        clear hfine hsize
        have hle2 : Maps.size (seenOf l) ≤ 16 := by rw [HS.out]; exact hle
        clear hul hle
        go_wp2_with (first
          | (at_len; refine wpList_len_own _ rfl _ 126 rfl 9 127 Tryz.underlying126 _ w.heap.size l.length _ rfl hown ?_)
          | (at_make; refine wpList_make_own _ rfl _ _ 36 rfl (w.heap.size + 1) 9 i0 (.string ⟨#[]⟩) 1 Tryz.underlying36 hi hz0 hz1 _ _ _ (Maps.size (seenOf l)) rfl rfl rfl (by rw [hz2]; omega) (by unfold maxLen; omega) hws ?_; intro w1 hrow1 hg1)
          | (at_range; refine wpList_range_own _ rfl _ 126 rfl 9 127 tags_law Tryz.underlying126 _ w.heap.size l.length _ rfl (hown.kept hg1 (by simp)) ?_; intro w0 hrg0 hg0 hs0))
        have hbl0 : Below w.heap.size w w0 := (hbl.grown hg1 (by omega) (fun j hj => by cases hj)).grown hg0 (by have := hg1.size; omega) (fun j hj => by cases hj)
        have hrow0 := hrow1.kept hg0 (Or.inr (by simp [Value.ownBlock]))
        have hw1 : w.heap.size + 1 ≤ w1.heap.size := by have := hg1.size; omega
        clear hown hbl hws hrow1 hg0 hs0 HA HC
        go_frame
        go_loopw [7] (fun v wr => ∃ (left : Lit → Bool) (cnt : Nat) (ss : List Bt), wr.ranges Tryz.prog 9 (unitElem (H := Unit)) w.heap.size w1.heap.size l.length (seenOf l) left cnt ∧ ss.length + cnt ≤ 16 ∧
            wr.ownsRow (w.heap.size + 1) 9 1 v ss.length (ss.map encStr) ∧ v ≠ .slice none 0 0 ∧ Hid (Collected (seenOf l) left ss) ∧ Below w.heap.size w wr)
          (fun _ wr => wr.rangeLeft w.heap.size w1.heap.size)
        case atStart => exact ⟨_, _, [], hrg0, by simpa using hle2, hrow0, by simp, Collected.start _, hbl0⟩
        case round =>
          obtain ⟨left, cnt, ss, hrg, hcs, hrow, hnn, HCol, hnx⟩ := hrel
          clear hrg0 hbl0 hrow0
          go_wp2_with (at_next; refine wpList_next_ranges _ rfl _ rfl 9 tags_law (unitElem (H := Unit)) encStr (fun _ : Unit => .agg #[]) (fun key kl hk => by obtain ⟨y, hy, _⟩ := Maps.keyOf_str Tryz.underlying9 hk; exact ⟨y, hy⟩) (fun v y hv => ⟨(), (unitElem_inv hv).1⟩) w.heap.size w1.heap.size l.length _ _ _ rfl hrg ?_ ?_)
          · intro hc0 hl0
            rcases hrow.2 with ⟨hnil, _⟩ | ⟨g, cap2, cur, rfl, hbase, hb, h1, h2, h3, h4⟩
            · exact absurd hnil hnn
            have hH : Holds encStr wr g 0 ss.toArray := holds_of_block hb (by simpa using h4)
            have hgl : g < wr.heap.size := (Array.getElem?_eq_some_iff.1 hb).1
            have hc := Tryz.slices_Sort_string g 0 cap2 ss wr hH hgl (by omega)
            have hperm := HCol.out.perm hrg.owns tags_law Tryz.underlying9 hl0
            have hsortd := collected_sort l ss hperm
            have hss : ss.length = (kUniq l).length := by rw [← hsortd]; exact (List.length_mergeSort ss).symm
            have HSD := Lib.hid hsortd
            have HSS := Lib.hid hss
            clear hperm hsortd hss hc0 hl0
            go_wp2_with (go_at_call 73; refine hc.mono ?_; rintro e w' ⟨rfl, nn, os, rfl⟩)
            go_ret2
            rw [HF.out]
            have hfin := ownsRow_sorted (ss := ss) (ts := ss.mergeSort leB) (n := nn) (os := os) (by simp) hbase hb h1 h2 h3
            rw [HSD.out] at hfin ⊢
            rw [HSS.out] at hfin ⊢
            exact ⟨_, rfl, ownsRow_low hfin (by omega), hnx.grown (grownBy_sorted _) hnx.size (fun j hj => by cases hj; omega)⟩
          · intro x c kl yd w2 cnt2 hkey hlk hv hat hrg2 hlt hg2 hs2 hen
            obtain ⟨x', ex, rfl, _⟩ := Maps.keyOf_str Tryz.underlying9 hkey
            obtain rfl : x = x' := encStr_inj ex
            have hrow2 := hrow.kept hg2 (Or.inr (row_ne_iter hrow hrg).symm)
            have hCol2 := Lib.hid (HCol.out.step hlk hat)
            have hnx2 : Below w.heap.size w w2 := hnx.grown hg2 hnx.size (fun j hj => by cases hj; omega)
            have hsz2 := hnx2.size
            have hlow : w.heap.size + 1 ≤ w2.heap.size := by have := hg2.size; have := hrg.lt; have := hrg.owns.lt; omega
            clear hs2 hkey hlk hat hv ex hnx hrow
            go_wp2_with (at_builtin; refine wpList_append_own _ rfl _ _ 36 rfl (w.heap.size + 1) 9 i0 (.string ⟨#[]⟩) 1 16 Tryz.underlying36 hi hz0 hz1 hz2 rfl (by decide) _ _ _ rfl (hrow2.alloc _) ⟨w2.heap.size, 0, none⟩ 1 1 [encStr x] rfl rfl ?c1 ?c2 ?c3 ?c4 ?c5 ?_)
            case c1 => exact cell_one_new _ _ _
            case c2 => exact one_string _
            case c3 => unfold maxLen; omega
            case c4 => omega
            case c5 => simp; omega
            intro v' w3 hown' hg3 hnil3
            have hrg3 := (hrg2.alloc _).kept hg3 (row_ne_low hrow2 (by omega)) (row_ne_iter hrow2 hrg2)
            have hbl2 := below_append hnx2 hsz2 (ownsRow_low hrow2 (by omega)) hg3
            have hne3 : v' ≠ .slice none 0 0 := hnil3
            go_wp2
            go_roundw
            case rel => exact ⟨_, cnt2, ss ++ [x], hrg3, by simp; omega, by simpa using hown', hne3, hCol2, hbl2⟩
            case measure => rw [hrg3.left_eq, hrg.left_eq]; exact hlt
      · rw [if_neg hle] at hfine
        have HF := Lib.hid hfine
        have hlt2 : (16 : Int) < (Maps.size (seenOf l) : Int) := by rw [hsize]; omega
        have hul2 : Maps.size (seenOf l) ≤ l.length := by rw [hsize]; exact hul
        clear hfine hsize hul hle
        go_wp2_with (at_len; refine wpList_len_own _ rfl _ 126 rfl 9 127 Tryz.underlying126 _ w.heap.size l.length _ rfl hown ?_)
        go_ret2
        rw [HF.out]
        exact ⟨_, rfl, World.ownsRow_nil _ _ _ _, hbl⟩
end Go.Proofs.YtfpkeinknhijaaaGreat
