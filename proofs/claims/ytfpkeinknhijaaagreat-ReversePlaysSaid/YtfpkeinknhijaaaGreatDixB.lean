/- The document's index: Of, Wrong, and which tags are right. -/
import Derived.Test.YtfpkeinknhijaaaGreatDixA
import Derived.StillTailTactics
namespace Go.Proofs.YtfpkeinknhijaaaGreat
set_option linter.unusedVariables false
open Go.RowKit Go.Maps Go.Sort

/-- The slots of a number, whatever the number is. -/
def ofI (S : List (Nat × Nat)) (t : Int) : List Nat := (S.filter fun s => decide ((s.1 : Int) = t)).map (·.2)
theorem ofI_nat (S : List (Nat × Nat)) (n : Nat) : ofI S (n : Int) = ofX S n := by
  unfold ofI ofX
  refine congrArg _ (List.filter_congr fun s _ => ?_)
  rw [Bool.eq_iff_iff]
  simp
  omega
theorem ofI_snoc (S : List (Nat × Nat)) (s : Nat × Nat) (t : Int) : ofI (S ++ [s]) t = ofI S t ++ (if (s.1 : Int) = t then [s.2] else []) := by
  unfold ofI
  rw [List.filter_append, List.map_append]
  by_cases h : (s.1 : Int) = t
  · simp [h]
  · simp [h]
theorem ofI_len (S : List (Nat × Nat)) (t : Int) : (ofI S t).length ≤ S.length := by
  unfold ofI
  rw [List.length_map]
  exact List.length_filter_le _ _
set_option maxHeartbeats 4000000 in
set_option maxRecDepth 100000 in
theorem xof_any {w : World} {P : Nat → Prop} {d : Dx} {a : Dp} (h : Dix w P d a) (most : Int) (hl : d.sl.length ≤ 1000000) (t : Int) :
    Calls Tryz.prog 35 #[dixV most d a, .int .i64 t] w (NewRow w 22 (idsV (ofI d.sl t))) := by
  have HB : Hid (Below w.heap.size w (w.alloc (.cells (dixCs most d a) 35))) := (Below.refl _ _).alloc (Nat.le_refl _) _
  have HBX : Hid (Blk (w.alloc (.cells (dixCs most d a) 35)) w.heap.size 35 (dixCs most d a)) := Blk.new _ _ _
  have H := Lib.hid (h.below HB.out)
  obtain ⟨N, hN⟩ : ∃ N, d.sl.length = N := ⟨_, rfl⟩
  have HN := Lib.hid hN
  rw [hN] at hl
  obtain ⟨iu, hiu, hpu⟩ := Option.map_eq_some_iff.1 u64Info
  have hu0 : iu.zero = some (.int .u64 0) := congrArg (·.1) hpu
  have hu1 : iu.size = 1 := congrArg (·.2.1) hpu
  have hu2 : iu.bytes = 8 := congrArg (·.2.2) hpu
  clear h hN hpu
  go_enter Tryz.func35, Tryz.ntmps35
  go_wp2_with fail
  obtain ⟨W1, hW1⟩ : ∃ W1, w.alloc (.cells (dixCs most d a) 35) = W1 := ⟨_, rfl⟩
  rw [hW1] at HB HBX H
  have hW1' := hW1
  unfold dixCs at hW1'
  try rw [hW1']
  try rw [hW1]
  try rw [HN.out]
  clear hW1 hW1'
  go_loopg [5, 6] N (fun r s5 s6 wr => ∃ (k nf : Nat) (q : Option Addr) (c : Nat), r + k = N ∧ s6 = .int .i64 (k : Int) ∧ s5 = .slice q nf c ∧ nf = (ofI (d.sl.take k) t).length ∧ wr.ownsRow W1.heap.size 22 1 (.slice q nf c) nf (idsV (ofI (d.sl.take k) t)) ∧ Below W1.heap.size W1 wr)
  case atStart => exact ⟨0, 0, none, 0, by omega, rfl, rfl, rfl, World.ownsRow_nil _ _ _ _, Below.refl _ _⟩
  case round =>
    obtain ⟨k, nf, q, c, hr, rfl, rfl, hnf, hrow, hb⟩ := hrel
    have HR := Lib.hid hr
    have HNF := Lib.hid hnf
    have ROW := Lib.hid hrow
    have BR := Lib.hid hb
    have hkN : k ≤ N := by omega
    have d3 := Blk.cell (Blk.below HBX.out hb (Blk.lt HBX.out)) 3
    simp only [List.getElem?_toArray, List.getElem?_cons_zero, List.getElem?_cons_succ] at d3
    rw [HN.out] at d3
    have hnl : nf ≤ k := by
      rw [hnf]
      refine Nat.le_trans (ofI_len _ _) ?_
      rw [List.length_take]
      omega
    clear hr hnf hrow hb
    by_cases hlt : k < N
    · obtain ⟨x, hx⟩ : ∃ x, d.sl[k]? = some x := ⟨_, List.getElem?_eq_getElem (by rw [HN.out]; exact hlt)⟩
      obtain ⟨g, hp, hg, -, -, hcell⟩ := (H.out.below BR.out).slots.at_ (by rw [HN.out]; omega)
      obtain ⟨g0, g1⟩ := sl_get hx
      have n0 := hcell _ _ g0
      have n1 := hcell _ _ g1
      rw [hp] at d3
      have HTK : Hid (d.sl.take (k + 1) = d.sl.take k ++ [x]) := by unfold Hid; rw [List.take_add_one, hx]; rfl
      obtain ⟨x1, x2⟩ := x
      simp only at n0 n1
      clear hcell g0 g1 hx hg hp
      by_cases ht : (x1 : Int) = t
      · have HOF : Hid (ofI (d.sl.take (k + 1)) t = ofI (d.sl.take k) t ++ [x2]) := by unfold Hid; rw [HTK.out, ofI_snoc, if_pos ht]
        go_wp2_with (at_builtin; refine wpList_append_own_at _ rfl _ _ 66 rfl W1.heap.size 22 iu (.int .u64 0) 1 8 Tryz.underlying66 hiu hu0 hu1 hu2 rfl (by decide) _ _ _ rfl (ROW.out.alloc _) ⟨wr.heap.size, 0, none⟩ 1 1 [.int .u64 (x2 : Int)] rfl rfl ?c1 ?c2 ?c3 ?c4 ?c5 ?_)
        case c1 => exact cell_one_new _ _ _
        case c2 => exact one_int _ _
        case c3 => unfold maxLen; omega
        case c4 => omega
        case c5 => have := BR.out.size; simp; omega
        intro v' w5 hown hg5 _ _
        obtain ⟨q', c', rfl⟩ := owns_form hown
        have HB5 : Hid (Below W1.heap.size W1 w5) := below_append BR.out (by have := BR.out.size; omega) ROW.out hg5
        have HOWN := Lib.hid hown
        clear hown hg5
        go_wp2_with fail
        go_roundg (N - (k + 1))
        case measure => have := HR.out; omega
        case rel =>
          refine ⟨k + 1, nf + 1, q', c', by omega, by go_num, rfl, by rw [HOF.out, List.length_append, ← HNF.out]; rfl, ?_, HB5.out⟩
          rw [HOF.out]
          unfold idsV
          rw [List.map_append]
          exact HOWN.out
      · have HOF : Hid (ofI (d.sl.take (k + 1)) t = ofI (d.sl.take k) t) := by unfold Hid; rw [HTK.out, ofI_snoc, if_neg ht, List.append_nil]
        go_wp2_with fail
        go_roundg (N - (k + 1))
        case measure => have := HR.out; omega
        case rel => exact ⟨k + 1, nf, q, c, by omega, by go_num, rfl, by rw [HOF.out]; exact HNF.out, by rw [HOF.out]; exact ROW.out, BR.out⟩
    · obtain rfl : k = N := by omega
      have HTK : Hid (d.sl.take k = d.sl) := List.take_of_length_le (by rw [HN.out]; exact Nat.le_refl _)
      rw [HTK.out] at HNF ROW
      go_wp2_with fail
      go_ret
      refine ⟨.slice q nf c, rfl, ?_, HB.out.trans (BR.out.mono HB.out.size)⟩
      rw [List.length_map, ← HNF.out]
      exact ownsRow_low ROW.out HB.out.size
set_option maxHeartbeats 4000000 in
set_option maxRecDepth 100000 in
theorem xwrong_any {w : World} {P : Nat → Prop} {d : Dx} {a : Dp} (h : Dix w P d a) (most : Int) (hl : d.sl.length ≤ 1000000) (hl2 : d.all.length ≤ 1000000) :
    Calls Tryz.prog 29 #[dixV most d a] w fun e w' => e = .returned (.int .i64 (wrongX d.all d.sl : Int)) ∧ Below w.heap.size w w' := by
  have HB : Hid (Below w.heap.size w (w.alloc (.cells (dixCs most d a) 35))) := (Below.refl _ _).alloc (Nat.le_refl _) _
  have HBX : Hid (Blk (w.alloc (.cells (dixCs most d a) 35)) w.heap.size 35 (dixCs most d a)) := Blk.new _ _ _
  have H := Lib.hid (h.below HB.out)
  obtain ⟨N, hN⟩ : ∃ N, d.sl.length = N := ⟨_, rfl⟩
  have HN := Lib.hid hN
  rw [hN] at hl
  have HL2 := Lib.hid hl2
  clear h hN hl2
  go_enter Tryz.func29, Tryz.ntmps29
  go_wp2_with fail
  obtain ⟨W1, hW1⟩ : ∃ W1, w.alloc (.cells (dixCs most d a) 35) = W1 := ⟨_, rfl⟩
  rw [hW1] at HB HBX H
  try rw [hW1]
  try rw [HN.out]
  clear hW1
  go_loopg [3, 4] N (fun r s3 s4 wr => ∃ (k : Nat), r + k = N ∧ s4 = .int .i64 (k : Int) ∧ s3 = .int .i64 (wrongX d.all (d.sl.take k) : Int) ∧ Below W1.heap.size W1 wr)
  case atStart => exact ⟨0, by omega, rfl, rfl, Below.refl _ _⟩
  case round =>
    obtain ⟨k, hr, rfl, rfl, hb⟩ := hrel
    have HR := Lib.hid hr
    have BR := Lib.hid hb
    have hkN : k ≤ N := by omega
    have hbx := Blk.below HBX.out hb (Blk.lt HBX.out)
    have d0 := Blk.cell hbx 0
    have d1 := Blk.cell hbx 1
    have d2 := Blk.cell hbx 2
    have d3 := Blk.cell hbx 3
    simp only [List.getElem?_toArray, List.getElem?_cons_zero, List.getElem?_cons_succ] at d0 d1 d2 d3
    have hwl : wrongX d.all (d.sl.take k) ≤ k := by
      refine Nat.le_trans (wrong_le _ _) ?_
      rw [List.length_take]
      omega
    clear hr hb hbx
    by_cases hlt : k < N
    · obtain ⟨x, hx⟩ : ∃ x, d.sl[k]? = some x := ⟨_, List.getElem?_eq_getElem (by rw [HN.out]; exact hlt)⟩
      obtain ⟨g, hp, hg, -, -, hcell⟩ := (H.out.below BR.out).slots.at_ (by rw [HN.out]; omega)
      obtain ⟨g0, g1⟩ := sl_get hx
      have n1 := hcell _ _ g1
      have HTK : Hid (wrongX d.all (d.sl.take (k + 1)) = wrongX d.all (d.sl.take k) + (if liveE d.all x.2 = true then 0 else 1)) := by
        unfold Hid wrongX
        rw [List.take_add_one, hx]
        simp only [Option.toList_some, List.countP_append, List.countP_singleton]
        cases liveE d.all x.2 <;> simp
      have hF := xfind_any (H.out.below BR.out.drew) most HL2.out x.2
      unfold dixV dixCs at hF
      rw [HN.out, hp] at hF
      have HF := Lib.hid hF
      rw [HN.out, hp] at d3
      have hfl := findE_live d.all x.2
      obtain ⟨x1, x2⟩ := x
      simp only at n1 HTK hfl HF
      generalize findE d.all x2 = fi at *
      generalize wrongX d.all (d.sl.take k) = wk at *
      clear hcell g0 g1 hx hg hp hF
      go_wp2_with fail
      go_still_tail 7, (by kernel_rfl)
      change wpList _ _ _ _ _ wr.drew
      rcases hfl with ⟨hl1, hf1⟩ | ⟨hl1, hf1⟩
      · rw [if_pos hl1] at HTK
        have hf2 : ¬ fi < 0 := by omega
        go_wp2_with (go_at_call 43; refine HF.out.mono ?_; rintro e w5 ⟨rfl, b5⟩)
        have HB5 : Hid (Below W1.heap.size W1 w5) := BR.out.drew.trans (b5.mono BR.out.drew.size)
        go_roundg (N - (k + 1))
        case measure => have := HR.out; omega
        case rel => exact ⟨k + 1, by omega, by go_num, by rw [HTK.out]; rfl, HB5.out⟩
      · rw [if_neg (by rw [hl1]; decide)] at HTK
        have hf2 : fi < 0 := by omega
        go_wp2_with (go_at_call 43; refine HF.out.mono ?_; rintro e w5 ⟨rfl, b5⟩)
        have HB5 : Hid (Below W1.heap.size W1 w5) := BR.out.drew.trans (b5.mono BR.out.drew.size)
        go_roundg (N - (k + 1))
        case measure => have := HR.out; omega
        case rel => exact ⟨k + 1, by omega, by go_num, by rw [HTK.out]; go_num, HB5.out⟩
    · obtain rfl : k = N := by omega
      have HTK : Hid (d.sl.take k = d.sl) := List.take_of_length_le (by rw [HN.out]; exact Nat.le_refl _)
      rw [HTK.out]
      rw [HN.out] at d3
      go_wp2_with fail
      exact bodyPost_ret (v := .int .i64 (wrongX d.all d.sl : Int)) (by simp [results, Tryz.results29, go_sem]) rfl ⟨rfl, HB.out.trans (BR.out.mono HB.out.size)⟩
end Go.Proofs.YtfpkeinknhijaaaGreat
