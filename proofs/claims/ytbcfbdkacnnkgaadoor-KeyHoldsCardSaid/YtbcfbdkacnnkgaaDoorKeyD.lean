/- Contracts of the reference's Segments and Folders. -/
import Derived.Test.YtbcfbdkacnnkgaaDoorKeyC
import Derived.StillTailTactics
import Derived.IntWalk
namespace Go.Proofs.YtbcfbdkacnnkgaaDoor
set_option linter.unusedVariables false
open Go.ChangeShapes Go.WideShapes Go.ChangeAt Go.RowKit

set_option maxHeartbeats 1000000 in
set_option maxRecDepth 100000 in
theorem refFolders_any (s : ByteArray) (hs : s.size ≤ 1000000) (w : World) :
    Calls Tryd.prog 25 #[.string s] w fun e w' => ∃ v, e = .returned v ∧ w'.ownsRow w.heap.size 9 1 v (kFolders s.data.toList).length ((kFolders s.data.toList).map encStr) ∧ Below w.heap.size w w' := by
  have hsz : s.data.toList.length = s.size := by simp
  rw [kFolders, hsz]
  clear hsz
  go_enter Tryd.func25, Tryd.ntmps25
  go_wp2
  go_loopw [3, 4] (fun v i wr => ∃ k : Nat, k ≤ s.size ∧ i = .int .i64 ((k : Int) + 1) ∧ wr.ownsRow w.heap.size 9 1 v (kFold s.data.toList k).length ((kFold s.data.toList k).map encStr) ∧ Below w.heap.size w wr) (fun _ i _ => s.size + 1 - (intOf i).toNat)
  case atStart => exact ⟨0, by omega, rfl, World.ownsRow_nil _ _ _ _, Below.refl _ _⟩
  case round =>
    obtain ⟨k, hk, rfl, hown, hbl⟩ := hrel
    by_cases hlt : k < s.size
    · have gk := getB s k hlt
      by_cases e : s[k] = 47
      · have c1 : (((s[k].toNat : Int)) == 47) = true := by rw [e]; rfl
        have hf : kFold s.data.toList (k + 1) = kFold s.data.toList k ++ [s.data.toList.take (k + 1)] := by
          rw [kFold, if_pos (by rw [gk, e])]
        have hlen := kFold_length s.data.toList k
        have HF := Lib.hid hf
        have hsz1 := hbl.size
        clear gk hf e
        obtain ⟨i0, hi, hz0, hz1, hz2⟩ := info_parts info_string
        go_wp2_with (at_builtin; go_loud (refine wpList_append_own _ rfl _ _ 26 rfl w.heap.size 9 i0 (.string ByteArray.empty) 1 16 Tryd.underlying26 hi hz0 hz1 hz2 rfl (by decide) _ _ _ rfl (hown.alloc _) ⟨wr.heap.size, 0, none⟩ 1 1 [.string (s.extract 0 (k + 1))] rfl rfl ?c1 ?c2 ?c3 ?c4 ?c5 ?_))
        case c1 => exact cell_one_new _ _ _
        case c2 => exact one_string _
        case c3 => unfold maxLen; omega
        case c4 => omega
        case c5 => simp; omega
        intro v' w' hown' hgrow _
        have hnew : w'.ownsRow w.heap.size 9 1 v' (kFold s.data.toList (k + 1)).length ((kFold s.data.toList (k + 1)).map encStr) := by
          rw [HF.out, List.length_append, List.map_append]
          rw [extract_take] at hown'
          exact hown'
        have hbl2 := below_append hbl hsz1 hown hgrow
        clear hown' hgrow hown hbl
        go_wp2
        go_roundw
        case rel => exact ⟨k + 1, by omega, by go_num, hnew, hbl2⟩
        case measure => simp [intOf]; omega
      · have c1 : (((s[k].toNat : Int)) == 47) = false := by rw [beq_eq_false_iff_ne]; exact fun h => e (UInt8.toNat_inj.1 (by have h' : ((s[k].toNat : Nat) : Int) = 47 := h; show s[k].toNat = 47; omega))
        have hf : kFold s.data.toList (k + 1) = kFold s.data.toList k := by
          rw [kFold, if_neg (by rw [gk]; simpa using e)]
        have HF := Lib.hid hf
        clear gk hf e
        go_wp2
        go_roundw
        case rel => exact ⟨k + 1, by omega, by go_num, by rw [HF.out]; exact hown, hbl⟩
        case measure => simp [intOf]; omega
    · obtain rfl : k = s.size := by omega
      go_wp2
      go_ret
      exact ⟨_, rfl, hown, hbl⟩

theorem bs_append (a b : List UInt8) : (⟨a.toArray⟩ : ByteArray) ++ ⟨b.toArray⟩ = ⟨(a ++ b).toArray⟩ := by
  apply ByteArray.ext
  simp

theorem extract_one (s : ByteArray) (k : Nat) (h : k < s.size) : s.extract k (k + 1) = ⟨[s[k]].toArray⟩ := by
  apply ByteArray.ext
  apply Array.ext'
  rw [Lib.extract_data]
  have := List.drop_eq_getElem_cons (l := s.data.toList) (i := k) (by simpa using h)
  rw [this, Nat.add_sub_cancel_left]
  rfl

set_option maxHeartbeats 1000000 in
set_option maxRecDepth 100000 in
theorem refSegments_any (s : ByteArray) (hs : s.size ≤ 1000000) (w : World) :
    Calls Tryd.prog 24 #[.string s] w fun e w' => ∃ v, e = .returned v ∧ w'.ownsRow w.heap.size 9 1 v (kSegs s.data.toList).length ((kSegs s.data.toList).map encStr) ∧ Below w.heap.size w w' := by
  have hstart := kSegsFrom_start s.data.toList
  have HST := Lib.hid hstart
  clear hstart
  go_enter Tryd.func24, Tryd.ntmps24
  go_wp2
  have hown0 := ownsRow_whole (w := w) (e := 9) (xs := [.string ⟨#[]⟩]) rfl (by unfold maxLen; simp)
  go_loopw [3, 4] (fun v i wr => ∃ (k : Nat) (done : List Bs) (cur : Bs), k ≤ s.size ∧ i = .int .i64 k ∧ done.length ≤ k ∧ cur.length ≤ k ∧ Hid (kSegsFrom done cur (s.data.toList.drop k) = kSegs s.data.toList) ∧ wr.ownsRow w.heap.size 9 1 v (done.length + 1) (done.map encStr ++ [encStr cur]) ∧ Below w.heap.size w wr) (fun _ i _ => s.size - (intOf i).toNat)
  case atStart => exact ⟨0, [], [], by omega, rfl, by simp, by simp, HST, hown0, (Below.refl _ _).alloc (Nat.le_refl _) _⟩
  case round =>
    obtain ⟨k, done, cur, hk, rfl, hd, hc, HK, hown, hbl⟩ := hrel
    clear hown0
    by_cases hlt : k < s.size
    · have gk := getB s k hlt
      have hdr : s.data.toList.drop k = s[k] :: s.data.toList.drop (k + 1) := by
        have := List.drop_eq_getElem_cons (l := s.data.toList) (i := k) (by simpa using hlt)
        rw [this]; rfl
      by_cases e : s[k] = 47
      · have c1 : (((s[k].toNat : Int)) == 47) = true := by rw [e]; rfl
        have hK2 : kSegsFrom (done ++ [cur]) [] (s.data.toList.drop (k + 1)) = kSegs s.data.toList := by
          have h := HK.out
          rw [hdr, kSegsFrom, if_pos e] at h
          exact h
        have HK2 := Lib.hid hK2
        have hsz1 := hbl.size
        clear hK2 hdr gk e HK
        obtain ⟨i0, hi, hz0, hz1, hz2⟩ := info_parts info_string
        go_wp2_with (at_builtin; refine wpList_append_own _ rfl _ _ 26 rfl w.heap.size 9 i0 (.string ByteArray.empty) 1 16 Tryd.underlying26 hi hz0 hz1 hz2 rfl (by decide) _ _ _ rfl (hown.alloc _) ⟨wr.heap.size, 0, none⟩ 1 1 [.string ⟨#[]⟩] rfl rfl ?c1 ?c2 ?c3 ?c4 ?c5 ?_)
        case c1 => exact cell_one_new _ _ _
        case c2 => exact one_string _
        case c3 => unfold maxLen; omega
        case c4 => omega
        case c5 => simp; omega
        intro v' w' hown' hgrow _
        have hnew : w'.ownsRow w.heap.size 9 1 v' ((done ++ [cur]).length + 1) ((done ++ [cur]).map encStr ++ [encStr []]) := by
          have e3 : (done ++ [cur]).map encStr ++ [encStr []] = done.map encStr ++ [encStr cur, .string ⟨#[]⟩] := by simp
          have e4 : (done ++ [cur]).length + 1 = done.length + 1 + 1 := by simp
          rw [e3, e4]
          exact hown'
        have hbl2 := below_append hbl hsz1 hown hgrow
        clear hown' hgrow hown hbl
        go_wp2
        go_roundw
        case rel => exact ⟨k + 1, done ++ [cur], [], by omega, by go_num, by simp; omega, by simp, HK2, hnew, hbl2⟩
        case measure => simp [intOf]; omega
      · have c1 : (((s[k].toNat : Int)) == 47) = false := by rw [beq_eq_false_iff_ne]; exact fun h => e (UInt8.toNat_inj.1 (by have h' : ((s[k].toNat : Nat) : Int) = 47 := h; show s[k].toNat = 47; omega))
        have hK2 : kSegsFrom done (cur ++ [s[k]]) (s.data.toList.drop (k + 1)) = kSegs s.data.toList := by
          have h := HK.out
          rw [hdr, kSegsFrom, if_neg e] at h
          exact h
        have HK2 := Lib.hid hK2
        clear hK2 hdr gk e HK
        obtain ⟨g, cap, rfl, hg⟩ : ∃ g cap, u3 = .slice (some ⟨g, 0, none⟩) (done.length + 1) cap ∧ w.heap.size ≤ g := by
          rcases hown.2 with ⟨_, h0⟩ | ⟨g, cap, row, hv, hg, _⟩
          · omega
          · exact ⟨g, cap, hv, hg⟩
        have hcell : wr.cell? ⟨g, done.length, none⟩ = some (.string ⟨cur.toArray⟩) := by
          have := hown.cells (g := g) rfl done.length (encStr cur) (by simp)
          rw [Lib.add_plain, Nat.zero_add] at this
          exact this
        have hfr := hown.frozenAt done.length
        have hst := hown.stored done.length (.string ⟨(cur ++ [s[k]]).toArray⟩)
        have HS := Lib.hid hst
        have HO := Lib.hid hown
        clear hst hown
        have w1 : IntKind.i64.wrap (done.length : Int) = (done.length : Int) := IntWalk.i64_in _ (by omega)
        have w2 : IntKind.i64.wrap ((k : Int) + 1) = (k : Int) + 1 := IntWalk.i64_in _ (by omega)
        have b0 : (0 : Int) ≤ (done.length : Int) := by omega
        have b1 : (done.length : Int) < (done.length : Int) + 1 := by omega
        have b2 : (0 : Int) ≤ (k : Int) := by omega
        have b3 : (k : Int) ≤ (k : Int) + 1 := by omega
        have b4 : (k : Int) + 1 ≤ (s.size : Int) := by omega
        have b5 : ((k : Int) + 1).toNat = k + 1 := by omega
        have hx : s.extract k (k + 1) = ⟨[s[k]].toArray⟩ := extract_one s k hlt
        have hlc : cur.length + 1 ≤ 9223372036854775807 := by omega
        have hlc2 : cur.length ≤ 9223372036854775806 := by omega
        have hlc3 : ¬ 9223372036854775807 < cur.length + 1 := by omega
        have hlc4 : cur.length < 9223372036854775807 := by omega
        go_wp2_with fail
        go_still_tail 16, (by kernel_rfl)
        change wpList _ _ _ _ _ wr.drew
        obtain ⟨W1, hW1⟩ : ∃ W1, wr.drew = W1 := ⟨_, rfl⟩
        have own1 : W1.ownsRow w.heap.size 9 1 (.slice (some ⟨g, 0, none⟩) (done.length + 1) cap) (done.length + 1) (done.map encStr ++ [encStr cur]) := by rw [← hW1]; exact HO.out
        have hbl1 : Below w.heap.size w W1 := by rw [← hW1]; exact hbl.drew
        rw [hW1]
        clear hW1 hcell hfr hbl HS HO
        have hcell : W1.cell? ⟨g, done.length, none⟩ = some (.string ⟨cur.toArray⟩) := by
          have := own1.cells (g := g) rfl done.length (encStr cur) (by simp)
          rw [Lib.add_plain, Nat.zero_add] at this
          exact this
        have hfr := own1.frozenAt done.length
        have hst := (own1.stored done.length (.string ((⟨cur.toArray⟩ : ByteArray) ++ ⟨#[s[k]]⟩))).1
        have hset : (done.map encStr ++ [encStr cur]).set done.length (.string ((⟨cur.toArray⟩ : ByteArray) ++ ⟨#[s[k]]⟩)) = done.map encStr ++ [encStr (cur ++ [s[k]])] := by
          rw [List.set_append, if_neg (by simp)]
          have : (⟨cur.toArray⟩ : ByteArray) ++ ⟨#[s[k]]⟩ = ⟨(cur ++ [s[k]]).toArray⟩ := bs_append cur [s[k]]
          rw [this]
          simp
        rw [hset] at hst
        have HST := Lib.hid hst
        clear hst hset own1 hx
        go_wp2
        go_roundw
        case rel => exact ⟨k + 1, done, cur ++ [s[k]], by omega, by go_num, by omega, by simp; omega, HK2, HST.out, hbl1.setCell (by exact hg) _⟩
        case measure => simp [intOf]; omega
    · have hfin : kSegs s.data.toList = done ++ [cur] := by
        rw [← HK.out, List.drop_eq_nil_of_le (by simp; omega)]
        rfl
      have HF := Lib.hid hfin
      clear hfin HK
      go_wp2
      go_ret
      refine ⟨_, rfl, ?_, hbl⟩
      rw [HF.out, List.length_append, List.map_append]
      exact hown
end Go.Proofs.YtbcfbdkacnnkgaaDoor
