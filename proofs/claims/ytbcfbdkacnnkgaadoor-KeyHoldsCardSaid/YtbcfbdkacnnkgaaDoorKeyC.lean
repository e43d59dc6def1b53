/- Contracts of Segments and Folders. -/
import Derived.Test.YtbcfbdkacnnkgaaDoorKeyB
namespace Go.Proofs.YtbcfbdkacnnkgaaDoor
set_option linter.unusedVariables false
open Go.ChangeShapes Go.WideShapes Go.ChangeAt Go.RowKit

theorem mk_eq (s : ByteArray) : (⟨s.data.toList.toArray⟩ : ByteArray) = s := by
  apply ByteArray.ext
  simp

theorem extract_take (s : ByteArray) (n : Nat) : s.extract 0 n = ⟨(s.data.toList.take n).toArray⟩ := by
  rw [← Lib.extract_from_zero, mk_eq]

theorem split_cells (s : ByteArray) : (Lib.splitB ⟨#[47]⟩ 0 (Lib.countB s ⟨#[47]⟩) s).map Value.string = (kSegs s.data.toList).map encStr := by
  have h := Lib.splitB_data ⟨#[47]⟩ 0 (Lib.countB s ⟨#[47]⟩) s
  rw [← split_eq]
  have e : Lib.split s.data.toList [47] = Lib.splitK [47] 0 (Lib.countB s ⟨#[47]⟩) s.data.toList := rfl
  rw [e, ← h, List.map_map]
  apply List.map_congr_left
  intro x _
  simp [encStr]
theorem split_len (s : ByteArray) : Lib.countB s ⟨#[47]⟩ + 1 = (kSegs s.data.toList).length := by
  have h := congrArg List.length (split_cells s)
  have h2 := Lib.splitB_all ⟨#[47]⟩ (by decide) 0 _ s rfl
  simp only [List.length_map] at h
  omega

/-- Segments: the list, and the error. -/
def kSegsR (s : Bs) : List Bs × Int := if kValid s.length then (kSegs s, 0) else ([], 2)
def kFoldsR (s : Bs) : List Bs × Int := if kValid s.length then (kFolders s, 0) else ([], 2)

theorem cell_below {w w' : World} {a : Addr} {v : Value} (h : w.cell? a = some v) (hb : Below w.heap.size w w') : w'.cell? a = some v := by
  rw [hb.cell (p := a) (World.block_lt_of_cell? w a h)]; exact h

/-- What the walks need of the world: the library's MaxLen holds some number; the table of digits. -/
structure Laid (w : World) : Prop where
  maxlen : ∃ m, w.cell? ⟨1, 0, none⟩ = some (.int .i64 m)

theorem Laid.below {w w' : World} (h : Laid w) (hb : Below w.heap.size w w') : Laid w' := by
  obtain ⟨⟨m, hm⟩⟩ := h
  exact ⟨⟨m, cell_below hm hb⟩⟩

set_option maxHeartbeats 1000000 in
theorem keySegments_any (s : ByteArray) (hs : s.size ≤ 1000000) (w : World) (hL : Laid w) :
    Calls Tryd.prog 21 #[.string s] w fun e w' => ∃ v, e = .returned (.tuple #[v, .int .i64 (kSegsR s.data.toList).2]) ∧ w'.ownsRow w.heap.size 9 1 v (kSegsR s.data.toList).1.length ((kSegsR s.data.toList).1.map encStr) ∧ Below w.heap.size w w' := by
  have hsz : s.data.toList.length = s.size := by simp
  rcases Bool.eq_false_or_eq_true (kValid s.size) with hv | hv
  · have hr : kSegsR s.data.toList = (kSegs s.data.toList, 0) := by simp only [kSegsR, hsz, hv, if_true]
    rw [hr]
    have hc := split_cells s
    have hl := split_len s
    obtain ⟨m, hm⟩ := hL.maxlen
    have HC := Lib.hid hc
    have HL := Lib.hid hl
    clear hc hl hr hsz
    go_enter Tryd.func21, Tryd.ntmps21
    go_wp2_with (first | (go_at_call 11; refine (keyValid_any _ _).mono ?_; rintro e w' ⟨rfl, rfl⟩) | (go_at_call 38; refine (Tryd.strings_Split s ⟨#[47]⟩ m _ (by omega) hm (by decide)).mono ?_; rintro e w' ⟨rfl, rfl⟩))
    go_ret2
    have hw := ownsRow_whole (w := w) (e := 9) (xs := (kSegs s.data.toList).map encStr) rfl (by rw [List.length_map, ← HL.out]; have := Lib.countB_le ⟨#[47]⟩ (by decide) _ s (Nat.le_refl _); unfold maxLen; omega)
    rw [List.length_map] at hw
    refine ⟨_, rfl, ?_, (Below.refl _ _).alloc (Nat.le_refl _) _⟩
    show World.ownsRow (w.alloc (.cells ((Lib.splitB ⟨#[47]⟩ 0 (Lib.countB s ⟨#[47]⟩) s).map Value.string).toArray _)) _ _ _ (.slice _ (Lib.countB s ⟨#[47]⟩ + 1) (Lib.countB s ⟨#[47]⟩ + 1)) _ _
    rw [HC.out, HL.out]
    exact hw
  · have hr : kSegsR s.data.toList = ([], 2) := by simp only [kSegsR, hsz, hv, Bool.false_eq_true, if_false]
    rw [hr]
    clear hr hsz
    go_enter Tryd.func21, Tryd.ntmps21
    go_wp2_with (first | (go_at_call 11; refine (keyValid_any _ _).mono ?_; rintro e w' ⟨rfl, rfl⟩))
    go_ret2
    exact ⟨_, rfl, World.ownsRow_nil _ _ _ _, Below.refl _ _⟩

theorem info_string : (Tryd.prog.info? 9).map (fun i => (i.zero, i.size, i.bytes)) = some (some (.string ByteArray.empty), 1, 16) := by kernel_rfl

set_option maxHeartbeats 1000000 in
theorem keyFolders_any (s : ByteArray) (hs : s.size ≤ 1000000) (w : World) :
    Calls Tryd.prog 22 #[.string s] w fun e w' => ∃ v, e = .returned (.tuple #[v, .int .i64 (kFoldsR s.data.toList).2]) ∧ w'.ownsRow w.heap.size 9 1 v (kFoldsR s.data.toList).1.length ((kFoldsR s.data.toList).1.map encStr) ∧ Below w.heap.size w w' := by
  have hsz : s.data.toList.length = s.size := by simp
  rcases Bool.eq_false_or_eq_true (kValid s.size) with hv | hv
  · have hr : kFoldsR s.data.toList = (kFold s.data.toList s.size, 0) := by simp only [kFoldsR, kFolders, hsz, hv, if_true]
    rw [hr]
    clear hr hsz
    go_enter Tryd.func22, Tryd.ntmps22
    go_wp2_with (first | (go_at_call 11; refine (keyValid_any _ _).mono ?_; rintro e w' ⟨rfl, rfl⟩))
    go_loopw [4, 11] (fun v i wr => ∃ k : Nat, k ≤ s.size ∧ i = .int .i64 k ∧ wr.ownsRow w.heap.size 9 1 v (kFold s.data.toList k).length ((kFold s.data.toList k).map encStr) ∧ Below w.heap.size w wr) (fun _ i _ => s.size - (intOf i).toNat)
    case atStart => exact ⟨0, by omega, rfl, World.ownsRow_nil _ _ _ _, Below.refl _ _⟩
    case round =>
      obtain ⟨k, hk, rfl, hown, hbl⟩ := hrel
      by_cases hlt : k < s.size
      · have gk := getB s k hlt
        have hz : (({ data := #[47] } : ByteArray)[0]'(by decide)).toNat = 47 := rfl
        by_cases e : s[k] = 47
        · have c1 : (((s[k].toNat : Int)) == 47) = true := by rw [e]; rfl
          have hf : kFold s.data.toList (k + 1) = kFold s.data.toList k ++ [s.data.toList.take (k + 1)] := by
            rw [kFold, if_pos (by rw [gk, e])]
          have hlen := kFold_length s.data.toList k
          have HF := Lib.hid hf
          clear gk hf e
          go_wp2
          go_quiet (fail)
          obtain ⟨W1, hW1⟩ : ∃ W1, wr.drewN nq = W1 := ⟨_, rfl⟩
          have hown1 : W1.ownsRow w.heap.size 9 1 u4 (kFold s.data.toList k).length ((kFold s.data.toList k).map encStr) := by rw [← hW1]; exact hown
          have hbl1 : Below w.heap.size w W1 := by rw [← hW1]; exact below_drewN hbl _
          rw [hW1]
          clear hW1 hown hbl
          have hsz1 := hbl1.size
          obtain ⟨i0, hi, hz0, hz1, hz2⟩ := info_parts info_string
          go_wp2_with (at_builtin; refine wpList_append_own _ rfl _ _ 26 rfl w.heap.size 9 i0 (.string ByteArray.empty) 1 16 Tryd.underlying26 hi hz0 hz1 hz2 rfl (by decide) _ _ _ rfl (hown1.alloc _) ⟨W1.heap.size, 0, none⟩ 1 1 [.string (s.extract 0 (k + 1))] rfl rfl ?c1 ?c2 ?c3 ?c4 ?c5 ?_)
          case c1 => exact cell_one_new _ _ _
          case c2 => exact one_string _
          case c3 => unfold maxLen; omega
          case c4 => omega
          case c5 => simp; omega
          intro v' w' hown' hgrow _
          have hnew : w'.ownsRow w.heap.size 9 1 v' (kFold s.data.toList (k + 1)).length ((kFold s.data.toList (k + 1)).map encStr) := by
            rw [HF.out, List.length_append, List.map_append]
            rw [extract_take] at hown'
            exact hown'
          have hbl2 := below_append hbl1 hsz1 hown1 hgrow
          clear hown' hgrow hown1 hbl1
          go_wp2
          go_roundw
          case rel => exact ⟨k + 1, by omega, by go_num, hnew, hbl2⟩
          case measure => simp [intOf]; omega
        · have c1 : (((s[k].toNat : Int)) == 47) = false := by rw [beq_eq_false_iff_ne]; exact fun h => e (UInt8.toNat_inj.1 (by have h' : ((s[k].toNat : Nat) : Int) = 47 := h; show s[k].toNat = 47; omega))
          have hf : kFold s.data.toList (k + 1) = kFold s.data.toList k := by
            rw [kFold, if_neg (by rw [gk]; simpa using e)]
          have HF := Lib.hid hf
          clear gk hf e
          go_wp2
          go_quiet (fail)
          go_wp2
          go_roundw
          case rel => exact ⟨k + 1, by omega, by go_num, by rw [HF.out]; exact hown, below_drewN hbl _⟩
          case measure => simp [intOf]; omega
      · obtain rfl : k = s.size := by omega
        go_wp2
        go_ret2
        exact ⟨_, rfl, hown, hbl⟩
  · have hr : kFoldsR s.data.toList = ([], 2) := by simp only [kFoldsR, hsz, hv, Bool.false_eq_true, if_false]
    rw [hr]
    clear hr hsz
    go_enter Tryd.func22, Tryd.ntmps22
    go_wp2_with (first | (go_at_call 11; refine (keyValid_any _ _).mono ?_; rintro e w' ⟨rfl, rfl⟩))
    go_ret2
    exact ⟨_, rfl, World.ownsRow_nil _ _ _ _, Below.refl _ _⟩
end Go.Proofs.YtbcfbdkacnnkgaaDoor
