/- The document's Release. -/
import Derived.Test.YtfpkeinknhijaaaGreatRefB0
namespace Go.Proofs.YtfpkeinknhijaaaGreat
set_option linter.unusedVariables false
open Go.RowKit Go.Maps Go.Sort

theorem rfCells_refs : ∀ {l : Nms} {k : Nat} {r : Int}, k < l.length → (rfCells l).set (k * 2 + 1) (.int .i64 r) = rfCells (l.set k ((nmAt l k).1, r))
  | [], _, _, h => by simp at h
  | x :: l, 0, r, _ => by simp [rfCells, nmAt]
  | x :: l, k + 1, r, h => by
    have := rfCells_refs (l := l) (k := k) (r := r) (by simp at h; omega)
    rw [show (k + 1) * 2 + 1 = k * 2 + 1 + 1 + 1 by omega]
    simp only [rfCells, nmAt, List.getD_cons_succ, List.set_cons_succ] at this ⊢
    rw [this]
theorem rfCells_whole : ∀ {l : Nms} {k : Nat}, k < l.length → ((rfCells l).set (k * 2) (.string ⟨#[]⟩)).set (k * 2 + 1) (.int .i64 0) = rfCells (l.set k ([], 0))
  | [], _, h => by simp at h
  | x :: l, 0, _ => by simp [rfCells]
  | x :: l, k + 1, h => by
    have := rfCells_whole (l := l) (k := k) (by simp at h; omega)
    rw [show (k + 1) * 2 = k * 2 + 1 + 1 by omega]
    simp only [rfCells, List.set_cons_succ] at this ⊢
    rw [this]
/-- What the document's Add and Release leave: a list that reads, in the old row or in a new one. -/
def RTab (w : World) (most : Int) (p : Option Addr) (l' : Nms) (x : Value) (e : Int) (en : Ending) (w' : World) : Prop :=
  ∃ p' cap', en = .returned (.tuple #[.agg #[.int .i64 most, .slice p' l'.length cap'], x, .int .i64 e]) ∧ Rf w' 0 p' cap' l' ∧ (p' = p ∨ ∀ g, (Value.slice p' 0 0).ownBlock = some g → w.heap.size ≤ g) ∧ Below w.heap.size w w'
theorem info_rname : (Tryz.prog.info? 109).map (fun i => (i.zero, i.size, i.bytes)) = some (some (.agg #[.string ⟨#[]⟩, .int .i64 0]), 2, 24) := by kernel_rfl
set_option maxHeartbeats 2000000 in
set_option maxRecDepth 100000 in
theorem rrel_no {w : World} {B cap : Nat} {p : Option Addr} {l : Nms} (h : Rf w B p cap l) (hl : l.length ≤ 100000) (most n : Int) (hn : hasM l n = false) :
    Calls Tryz.prog 44 #[.agg #[.int .i64 most, .slice p l.length cap], .int .i64 n] w (RTab w most p l (.bool false) 9) := by
  have hB : Below w.heap.size w ((w.alloc (.cells #[.int .i64 most, .slice p l.length cap] 31)).alloc (.cells #[.int .i64 0, .slice none 0 0] 31)) := ((Below.refl _ _).alloc (Nat.le_refl _) _).alloc (by simp) _
  have hbx := Blk.alloc (Blk.new w 31 #[.int .i64 most, .slice p l.length cap]) (.cells #[.int .i64 0, .slice none 0 0] 31)
  have hbr := Blk.new (w.alloc (.cells #[.int .i64 most, .slice p l.length cap] 31)) 31 #[.int .i64 0, .slice none 0 0]
  rw [show (w.alloc (.cells #[.int .i64 most, .slice p l.length cap] 31)).heap.size = w.heap.size + 1 by simp] at hbr
  have RF := Lib.hid (ownsRow_below h hB)
  have HG : Hid (∀ g, (Value.slice p l.length cap).ownBlock = some g → g < w.heap.size) := fun g hg => ownsRow_lt h hg
  have HB := Lib.hid hB
  have HBX := Lib.hid hbx
  have HBR := Lib.hid hbr
  have c0 := Blk.cell hbx 0
  have c1 := Blk.cell hbx 1
  simp only [List.getElem?_toArray, List.getElem?_cons_zero, List.getElem?_cons_succ] at c0 c1
  clear h hB hbx hbr
  go_enter Tryz.func44, Tryz.ntmps44
  go_wp2_with fail
  clear c0 c1
  generalize (w.alloc (.cells #[.int .i64 most, .slice p l.length cap] 31)).alloc (.cells #[.int .i64 0, .slice none 0 0] 31) = W at *
  have HH := rhas_any RF.out hl most n
  rw [hn] at HH
  refine HH.mono ?_
  rintro e w1 ⟨rfl, b1⟩
  have hbx := Blk.below HBX.out b1 (Blk.lt HBX.out)
  have hbr := Blk.below HBR.out b1 (Blk.lt HBR.out)
  have HB1 : Hid (Below w.heap.size w w1) := HB.out.trans (b1.mono HB.out.size)
  have RF1 := Lib.hid (ownsRow_below RF.out b1)
  have c0 := Blk.cell hbx 0
  have c1 := Blk.cell hbx 1
  have d0 := Blk.cell hbr 0
  have d1 := Blk.cell hbr 1
  have fA := Blk.frozen hbx 1
  have f0 := Blk.frozen hbr 0
  have f1 := Blk.frozen hbr 1
  simp only [List.getElem?_toArray, List.getElem?_cons_zero, List.getElem?_cons_succ] at c0 c1 d0 d1
  have HBR1 := Lib.hid hbr
  clear HH hbx hbr b1 HB RF HBX HBR hn
  go_wp2_with fail
  have hz := Blk.set_ (Blk.set_ HBR1.out 0 (.int .i64 most)) 1 (.slice p l.length cap)
  have e0 := Blk.cell hz 0
  have e1 := Blk.cell hz 1
  simp only [List.setIfInBounds_toArray, List.set_cons_zero, List.set_cons_succ, List.getElem?_toArray, List.getElem?_cons_zero, List.getElem?_cons_succ] at e0 e1
  have HB2 : Hid (Below w.heap.size w ((w1.setCell ⟨w.heap.size + 1, 0, none⟩ (.int .i64 most)).setCell ⟨w.heap.size + 1, 1, none⟩ (.slice p l.length cap))) := (HB1.out.setCell (by simp) _).setCell (by simp) _
  have HNE : (Value.slice p l.length cap).ownBlock ≠ some (w.heap.size + 1) := fun e => by have := HG.out _ e; omega
  have RF2 : Hid (((w1.setCell ⟨w.heap.size + 1, 0, none⟩ (.int .i64 most)).setCell ⟨w.heap.size + 1, 1, none⟩ (.slice p l.length cap)).ownsRow B 109 2 (.slice p l.length cap) l.length (rfCells l)) := owns_set (owns_set RF1.out HNE 0 _) HNE 1 _
  clear hz HBR1 HB1 RF1 c0 c1 d0 d1 f0 f1 HNE HG
  generalize (w1.setCell ⟨w.heap.size + 1, 0, none⟩ (.int .i64 most)).setCell ⟨w.heap.size + 1, 1, none⟩ (.slice p l.length cap) = W2 at *
  refine bodyPost_ret (v := .tuple #[.agg #[.int .i64 most, .slice p l.length cap], .bool false, .int .i64 9]) (by simp [results, Tryz.results44, go_sem, e0, e1]) rfl ⟨p, cap, rfl, ownsRow_low RF2.out (Nat.zero_le _), .inl rfl, HB2.out⟩
set_option maxHeartbeats 2000000 in
set_option maxRecDepth 100000 in
theorem rrel_yes {w : World} {B cap : Nat} {p : Option Addr} {l : Nms} (h : Rf w B p cap l) (hl : l.length ≤ 100000) (most : Int) (k : Nat) (hn : hasM l (k : Int) = true) (hr1 : (nmAt l k).2 ≤ 2147483647) :
    Calls Tryz.prog 44 #[.agg #[.int .i64 most, .slice p l.length cap], .int .i64 k] w (RTab w most p (relM l k).1 (.bool (relM l k).2.1) (relM l k).2.2) := by
  have hB : Below w.heap.size w ((w.alloc (.cells #[.int .i64 most, .slice p l.length cap] 31)).alloc (.cells #[.int .i64 0, .slice none 0 0] 31)) := ((Below.refl _ _).alloc (Nat.le_refl _) _).alloc (by simp) _
  have hbx := Blk.alloc (Blk.new w 31 #[.int .i64 most, .slice p l.length cap]) (.cells #[.int .i64 0, .slice none 0 0] 31)
  have hbr := Blk.new (w.alloc (.cells #[.int .i64 most, .slice p l.length cap] 31)) 31 #[.int .i64 0, .slice none 0 0]
  rw [show (w.alloc (.cells #[.int .i64 most, .slice p l.length cap] 31)).heap.size = w.heap.size + 1 by simp] at hbr
  have RF := Lib.hid (ownsRow_below h hB)
  have HG : Hid (∀ g, (Value.slice p l.length cap).ownBlock = some g → g < w.heap.size) := fun g hg => ownsRow_lt h hg
  have HB := Lib.hid hB
  have HBX := Lib.hid hbx
  have HBR := Lib.hid hbr
  have c0 := Blk.cell hbx 0
  have c1 := Blk.cell hbx 1
  simp only [List.getElem?_toArray, List.getElem?_cons_zero, List.getElem?_cons_succ] at c0 c1
  clear h hB hbx hbr
  go_enter Tryz.func44, Tryz.ntmps44
  go_wp2_with fail
  clear c0 c1
  generalize (w.alloc (.cells #[.int .i64 most, .slice p l.length cap] 31)).alloc (.cells #[.int .i64 0, .slice none 0 0] 31) = W at *
  have HH := rhas_any RF.out hl most k
  rw [hn] at HH
  have hn' := hn
  refine HH.mono ?_
  rintro e w1 ⟨rfl, b1⟩
  have hbx := Blk.below HBX.out b1 (Blk.lt HBX.out)
  have hbr := Blk.below HBR.out b1 (Blk.lt HBR.out)
  have HB1 : Hid (Below w.heap.size w w1) := HB.out.trans (b1.mono HB.out.size)
  have RF1 := Lib.hid (ownsRow_below RF.out b1)
  have c0 := Blk.cell hbx 0
  have c1 := Blk.cell hbx 1
  have d0 := Blk.cell hbr 0
  have d1 := Blk.cell hbr 1
  have fA := Blk.frozen hbx 1
  have f0 := Blk.frozen hbr 0
  have f1 := Blk.frozen hbr 1
  simp only [List.getElem?_toArray, List.getElem?_cons_zero, List.getElem?_cons_succ] at c0 c1 d0 d1
  have HBR1 := Lib.hid hbr
  clear HH hbx hbr b1 HB RF HBX HBR hn
  obtain ⟨i0, hi, hz0, hz1, hz2⟩ := info_parts info_rname
  have hkl : k < l.length := live_lt (by unfold hasM at hn'; simpa using hn')
  obtain ⟨g, rfl, hg⟩ := Rf.ptr RF1.out (by omega)
  go_wp2_with (at_builtin; refine wpList_append_lies _ rfl _ _ 29 rfl w1.heap.size 109 i0 (.agg #[.string ⟨#[]⟩, .int .i64 0]) 2 24 Tryz.underlying29 hi hz0 hz1 hz2 rfl (by decide) _ _ _ rfl (World.ownsRow_nil _ _ _ _) ⟨g, 0, none⟩ l.length cap (rfCells l) rfl (rfCells_len l) ?c1 (rfCells_one l) (by omega) (by unfold maxLen; omega) (by omega) (Nat.le_refl _) w1.heap.size rfl ?_)
  case c1 => intro j u hj; rw [addr_add0]; exact (RF1.out.cellAt j (by have := (List.getElem?_eq_some_iff.1 hj).1; rw [rfCells_len] at this; exact this)).trans hj
  intro g1 cap1 w2 o2 g2 _ hg1
  have g2' : w1.grownBy w2 none := g2
  have b2 : Below w1.heap.size w1 w2 := (Below.refl w1.heap.size w1).grown g2' (Nat.le_refl _) (fun j hj => by cases hj)
  have hAl : w.heap.size + 1 < w1.heap.size := Blk.lt HBR1.out
  have hg1A : w1.heap.size ≤ g1 := (o2.lt g1 rfl).1
  have c0 := (b2.cell (p := ⟨w.heap.size, 0, none⟩) (by show w.heap.size < _; omega)).trans c0
  have c1 := (b2.cell (p := ⟨w.heap.size, 1, none⟩) (by show w.heap.size < _; omega)).trans c1
  have f2 := (b2.frozen (p := ⟨w.heap.size, 1, none⟩) (by show w.heap.size < _; omega)).trans fA
  have d0 := (b2.cell (p := ⟨w.heap.size + 1, 0, none⟩) hAl).trans d0
  have d1 := (b2.cell (p := ⟨w.heap.size + 1, 1, none⟩) hAl).trans d1
  have f0 := (b2.frozen (p := ⟨w.heap.size + 1, 0, none⟩) hAl).trans f0
  have f1 := (b2.frozen (p := ⟨w.heap.size + 1, 1, none⟩) hAl).trans f1
  obtain ⟨n0, n1⟩ := Rf.at o2 hkl
  have fk := o2.frozenAt (k * 2 + 1)
  have fk0 := o2.frozenAt (k * 2)
  have hne1 : ¬ g1 = w.heap.size := by omega
  have hne2 : ¬ g1 = w.heap.size + 1 := by omega
  have O2 := Lib.hid o2
  clear g2 g2' o2
  generalize hrr : (nmAt l k).2 = r at *
  have HRR := Lib.hid hrr
  clear hrr
  by_cases h1 : 1 < r
  · have HBR2 := Lib.hid (Blk.below HBR1.out b2 hAl)
    have HB2 : Hid (Below w.heap.size w w2) := HB1.out.trans (b2.mono HB1.out.size)
    have hM : relM l (k : Int) = (l.set k ((nmAt l k).1, r - 1), false, 0) := by
      unfold relM
      rw [if_pos hn', Int.toNat_natCast, HRR.out, if_pos h1]
    have HM := Lib.hid hM
    clear hM b2
    go_wp2_with fail
    have z := Blk.set_ (Blk.set_ (Blk.far (p := ⟨g1, k * 2 + 1, none⟩) (Blk.far (p := ⟨w.heap.size, 1, none⟩) HBR2.out (by simp) (.slice (some ⟨g1, 0, none⟩) l.length cap1)) (by simp; omega) (.int .i64 (r - 1))) 0 (.int .i64 most)) 1 (.slice (some ⟨g1, 0, none⟩) l.length cap1)
    have e0 := Blk.cell z 0
    have e1 := Blk.cell z 1
    simp only [List.setIfInBounds_toArray, List.set_cons_zero, List.set_cons_succ, List.getElem?_toArray, List.getElem?_cons_zero, List.getElem?_cons_succ] at e0 e1
    have y1 := owns_set (k := w.heap.size) O2.out (fun e => by simp [Value.ownBlock] at e; omega) 1 (.slice (some ⟨g1, 0, none⟩) l.length cap1)
    have y2 := (y1.stored (k * 2 + 1) (.int .i64 (r - 1))).1
    have y3 := owns_set (k := w.heap.size + 1) (owns_set (k := w.heap.size + 1) y2 (fun e => by simp [Value.ownBlock] at e; omega) 0 (.int .i64 most)) (fun e => by simp [Value.ownBlock] at e; omega) 1 (.slice (some ⟨g1, 0, none⟩) l.length cap1)
    have hbb := (((HB2.out.setCell (p := ⟨w.heap.size, 1, none⟩) (Nat.le_refl _) (.slice (some ⟨g1, 0, none⟩) l.length cap1)).setCell (p := ⟨g1, k * 2 + 1, none⟩) (by show w.heap.size ≤ g1; omega) (.int .i64 (r - 1))).setCell (p := ⟨w.heap.size + 1, 0, none⟩) (by simp) (.int .i64 most)).setCell (p := ⟨w.heap.size + 1, 1, none⟩) (by simp) (.slice (some ⟨g1, 0, none⟩) l.length cap1)
    refine bodyPost_ret (v := .tuple #[.agg #[.int .i64 most, .slice (some ⟨g1, 0, none⟩) l.length cap1], .bool false, .int .i64 0]) (by simp [results, Tryz.results44, go_sem, e0, e1]) rfl ⟨some ⟨g1, 0, none⟩, cap1, by rw [HM.out]; simp only [List.length_set], ?_, .inr (fun g hg => by simp [Value.ownBlock] at hg; omega), hbb⟩
    rw [rfCells_refs hkl] at y3
    rw [HM.out]
    unfold Rf
    rw [List.length_set]
    exact ownsRow_low y3 (Nat.zero_le _)
  · have hr0 : 0 < r := by
      have h5 := hn'
      unfold hasM liveB at h5
      rw [Int.toNat_natCast, HRR.out] at h5
      simpa using h5
    obtain rfl : r = 1 := by omega
    have HBR2 := Lib.hid (Blk.below HBR1.out b2 hAl)
    have HB2 : Hid (Below w.heap.size w w2) := HB1.out.trans (b2.mono HB1.out.size)
    have hM : relM l (k : Int) = (l.set k ([], 0), true, 0) := by
      unfold relM
      rw [if_pos hn', Int.toNat_natCast, HRR.out, if_neg (by decide)]
    have HM := Lib.hid hM
    clear hM b2 h1 hr0
    go_wp2_with fail
    have z := Blk.set_ (Blk.set_ (Blk.far (p := ⟨g1, k * 2 + 1, none⟩) (Blk.far (p := ⟨g1, k * 2, none⟩) (Blk.far (p := ⟨g1, k * 2 + 1, none⟩) (Blk.far (p := ⟨w.heap.size, 1, none⟩) HBR2.out (by simp) (.slice (some ⟨g1, 0, none⟩) l.length cap1)) (by simp; omega) (.int .i64 0)) (by simp; omega) (.string ⟨#[]⟩)) (by simp; omega) (.int .i64 0)) 0 (.int .i64 most)) 1 (.slice (some ⟨g1, 0, none⟩) l.length cap1)
    have e0 := Blk.cell z 0
    have e1 := Blk.cell z 1
    simp only [List.setIfInBounds_toArray, List.set_cons_zero, List.set_cons_succ, List.getElem?_toArray, List.getElem?_cons_zero, List.getElem?_cons_succ] at e0 e1
    have y1 := owns_set (k := w.heap.size) O2.out (fun e => by simp [Value.ownBlock] at e; omega) 1 (.slice (some ⟨g1, 0, none⟩) l.length cap1)
    have y2 := (((y1.stored (k * 2 + 1) (.int .i64 0)).1.stored (k * 2) (.string ⟨#[]⟩)).1.stored (k * 2 + 1) (.int .i64 0)).1
    have y3 := owns_set (k := w.heap.size + 1) (owns_set (k := w.heap.size + 1) y2 (fun e => by simp [Value.ownBlock] at e; omega) 0 (.int .i64 most)) (fun e => by simp [Value.ownBlock] at e; omega) 1 (.slice (some ⟨g1, 0, none⟩) l.length cap1)
    have hbb := (((((HB2.out.setCell (p := ⟨w.heap.size, 1, none⟩) (Nat.le_refl _) (.slice (some ⟨g1, 0, none⟩) l.length cap1)).setCell (p := ⟨g1, k * 2 + 1, none⟩) (by show w.heap.size ≤ g1; omega) (.int .i64 0)).setCell (p := ⟨g1, k * 2, none⟩) (by show w.heap.size ≤ g1; omega) (.string ⟨#[]⟩)).setCell (p := ⟨g1, k * 2 + 1, none⟩) (by show w.heap.size ≤ g1; omega) (.int .i64 0)).setCell (p := ⟨w.heap.size + 1, 0, none⟩) (by simp) (.int .i64 most)).setCell (p := ⟨w.heap.size + 1, 1, none⟩) (by simp) (.slice (some ⟨g1, 0, none⟩) l.length cap1)
    refine bodyPost_ret (v := .tuple #[.agg #[.int .i64 most, .slice (some ⟨g1, 0, none⟩) l.length cap1], .bool true, .int .i64 0]) (by simp [results, Tryz.results44, go_sem, e0, e1]) rfl ⟨some ⟨g1, 0, none⟩, cap1, by rw [HM.out]; simp only [List.length_set], ?_, .inr (fun g hg => by simp [Value.ownBlock] at hg; omega), hbb⟩
    rw [rfCells_refs hkl, rfCells_whole (by rw [List.length_set]; exact hkl), List.set_set] at y3
    rw [HM.out]
    unfold Rf
    rw [List.length_set]
    exact ownsRow_low y3 (Nat.zero_le _)
end Go.Proofs.YtfpkeinknhijaaaGreat
