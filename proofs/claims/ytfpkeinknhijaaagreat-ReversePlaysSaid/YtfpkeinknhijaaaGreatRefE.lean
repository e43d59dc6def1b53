/- The document's Add. -/
import Derived.Test.YtfpkeinknhijaaaGreatRefD
import Derived.Deep.RegionHeld3
namespace Go.Proofs.YtfpkeinknhijaaaGreat
set_option linter.unusedVariables false
open Go.RowKit Go.Maps Go.Sort

section
variable {w : World} {B cap : Nat} {p : Option Addr} {l : Nms} (h : Rf w B p cap l) (hl : l.length ≤ 100000) (most : Int) (s : ByteArray)
include h hl
omit hl in
set_option maxHeartbeats 2000000 in
set_option maxRecDepth 100000 in
theorem radd_bad (hv : validB s.data.toList = false) :
    Calls Tryz.prog 40 #[.agg #[.int .i64 most, .slice p l.length cap], .string s] w (RTab w most p l (.int .i64 0) 2) := by
  have hB : Below w.heap.size w ((w.alloc (.cells #[.int .i64 most, .slice p l.length cap] 31)).alloc (.cells #[.int .i64 0, .slice none 0 0] 31)) := ((Below.refl _ _).alloc (Nat.le_refl _) _).alloc (by simp) _
  have hbx := Blk.alloc (Blk.new w 31 #[.int .i64 most, .slice p l.length cap]) (.cells #[.int .i64 0, .slice none 0 0] 31)
  have hbr := Blk.new (w.alloc (.cells #[.int .i64 most, .slice p l.length cap] 31)) 31 #[.int .i64 0, .slice none 0 0]
  rw [show (w.alloc (.cells #[.int .i64 most, .slice p l.length cap] 31)).heap.size = w.heap.size + 1 by simp] at hbr
  have RF1 := Lib.hid (ownsRow_below h hB)
  have HG : Hid (∀ g, (Value.slice p l.length cap).ownBlock = some g → g < w.heap.size) := fun g hg => ownsRow_lt h hg
  have HB1 := Lib.hid hB
  have HV := Lib.hid (fun w' => rvalid_any s w')
  rw [hv] at HV
  have HBR1 := Lib.hid hbr
  clear h hB hv
  go_enter Tryz.func40, Tryz.ntmps40
  go_wp2_with fail
  generalize (w.alloc (.cells #[.int .i64 most, .slice p l.length cap] 31)).alloc (.cells #[.int .i64 0, .slice none 0 0] 31) = w1 at *
  have c0 := Blk.cell hbx 0
  have c1 := Blk.cell hbx 1
  have d0 := Blk.cell hbr 0
  have d1 := Blk.cell hbr 1
  have f0 := Blk.frozen hbr 0
  have f1 := Blk.frozen hbr 1
  simp only [List.getElem?_toArray, List.getElem?_cons_zero, List.getElem?_cons_succ] at c0 c1 d0 d1
  clear hbx hbr
  refine (HV.out _).mono ?_
  rintro e w' ⟨rfl, rfl⟩
  go_wp2_with fail
  have hz := Blk.set_ (Blk.set_ HBR1.out 0 (.int .i64 most)) 1 (.slice p l.length cap)
  have e0 := Blk.cell hz 0
  have e1 := Blk.cell hz 1
  simp only [List.setIfInBounds_toArray, List.set_cons_zero, List.set_cons_succ, List.getElem?_toArray, List.getElem?_cons_zero, List.getElem?_cons_succ] at e0 e1
  have HB2 : Hid (Below w.heap.size w ((w1.setCell ⟨w.heap.size + 1, 0, none⟩ (.int .i64 most)).setCell ⟨w.heap.size + 1, 1, none⟩ (.slice p l.length cap))) := (HB1.out.setCell (by simp) _).setCell (by simp) _
  have HNE : (Value.slice p l.length cap).ownBlock ≠ some (w.heap.size + 1) := fun e => by have := HG.out _ e; omega
  have RF2 : Hid (((w1.setCell ⟨w.heap.size + 1, 0, none⟩ (.int .i64 most)).setCell ⟨w.heap.size + 1, 1, none⟩ (.slice p l.length cap)).ownsRow B 109 2 (.slice p l.length cap) l.length (rfCells l)) := owns_set (owns_set RF1.out HNE 0 _) HNE 1 _
  clear hz HBR1 HB1 RF1 c0 c1 d0 d1 f0 f1 HNE HG
  generalize (w1.setCell ⟨w.heap.size + 1, 0, none⟩ (.int .i64 most)).setCell ⟨w.heap.size + 1, 1, none⟩ (.slice p l.length cap) = W2 at *
  refine bodyPost_ret (v := .tuple #[.agg #[.int .i64 most, .slice p l.length cap], .int .i64 0, .int .i64 2]) (by simp [results, Tryz.results40, go_sem, e0, e1]) rfl ⟨p, cap, rfl, ownsRow_low RF2.out (Nat.zero_le _), .inl rfl, HB2.out⟩
set_option maxHeartbeats 2000000 in
set_option maxRecDepth 100000 in
theorem radd_full (hd : Distinct l) (hv : validB s.data.toList = true) (hf : findN l s.data.toList = none) (hm : most ≤ liveN l) :
    Calls Tryz.prog 40 #[.agg #[.int .i64 most, .slice p l.length cap], .string s] w (RTab w most p l (.int .i64 0) 7) := by
  have hB : Below w.heap.size w ((w.alloc (.cells #[.int .i64 most, .slice p l.length cap] 31)).alloc (.cells #[.int .i64 0, .slice none 0 0] 31)) := ((Below.refl _ _).alloc (Nat.le_refl _) _).alloc (by simp) _
  have hbx := Blk.alloc (Blk.new w 31 #[.int .i64 most, .slice p l.length cap]) (.cells #[.int .i64 0, .slice none 0 0] 31)
  have hbr := Blk.new (w.alloc (.cells #[.int .i64 most, .slice p l.length cap] 31)) 31 #[.int .i64 0, .slice none 0 0]
  rw [show (w.alloc (.cells #[.int .i64 most, .slice p l.length cap] 31)).heap.size = w.heap.size + 1 by simp] at hbr
  have RF1 := Lib.hid (ownsRow_below h hB)
  have HG : Hid (∀ g, (Value.slice p l.length cap).ownBlock = some g → g < w.heap.size) := fun g hg => ownsRow_lt h hg
  have HB1 := Lib.hid hB
  have HV := Lib.hid (fun w' => rvalid_any s w')
  rw [hv] at HV
  have HBR1 := Lib.hid hbr
  clear h hB hv
  go_enter Tryz.func40, Tryz.ntmps40
  go_wp2_with fail
  generalize (w.alloc (.cells #[.int .i64 most, .slice p l.length cap] 31)).alloc (.cells #[.int .i64 0, .slice none 0 0] 31) = w1 at *
  have c0 := Blk.cell hbx 0
  have c1 := Blk.cell hbx 1
  have d0 := Blk.cell hbr 0
  have d1 := Blk.cell hbr 1
  have f0 := Blk.frozen hbr 0
  have f1 := Blk.frozen hbr 1
  simp only [List.getElem?_toArray, List.getElem?_cons_zero, List.getElem?_cons_succ] at c0 c1 d0 d1
  clear hbr
  refine (HV.out _).mono ?_
  rintro e w' ⟨rfl, rfl⟩
  have HF := rfind_any RF1.out hl most hd s
  rw [hf] at HF
  have HF : Hid (Calls _ _ _ _ fun e w' => e = .returned (.int .i64 (-1)) ∧ _) := HF
  have HBX1 := Lib.hid hbx
  clear hd hf hbx
  go_wp2_with fail
  refine HF.out.mono ?_
  rintro e w2 ⟨rfl, b2⟩
  have HBX2 := Lib.hid (Blk.below HBX1.out b2 (Blk.lt HBX1.out))
  have HBR2 := Lib.hid (Blk.below HBR1.out b2 (Blk.lt HBR1.out))
  have HB2' : Hid (Below w.heap.size w w2) := HB1.out.trans (b2.mono HB1.out.size)
  have RF2' := Lib.hid (ownsRow_below RF1.out b2)
  have c0 := Blk.cell HBX2.out 0
  have c1 := Blk.cell HBX2.out 1
  simp only [List.getElem?_toArray, List.getElem?_cons_zero, List.getElem?_cons_succ] at c0 c1
  clear HF b2 HBX1 HBR1 HB1 RF1 d0 d1 f0 f1
  go_wp2_with fail
  have HL := Lib.hid (rlen_any (w := w2.drew) RF2'.out hl most)
  go_region_held3 (fun w' => w'.cell? ⟨w.heap.size, 0, none⟩ = some (.int .i64 most) ∧ w'.cell? ⟨w.heap.size, 1, none⟩ = some (.slice p l.length cap)) (go_keep) (first
    | (go_at_call 30; refine HL.out.mono ?_; rintro e w3 ⟨rfl, b3⟩; have HBX3 := Lib.hid (Blk.below (w := w2.drew) HBX2.out b3 (Blk.lt (w := w2.drew) HBX2.out)); have k0 := Blk.cell HBX3.out 0; have k1 := Blk.cell HBX3.out 1; simp only [List.getElem?_toArray, List.getElem?_cons_zero, List.getElem?_cons_succ] at k0 k1))
  have HB1 : Hid (Below w.heap.size w w3) := (HB2'.out.drew).trans (b3.mono HB2'.out.size)
  have HBR1 := Lib.hid (Blk.below (w := w2.drew) HBR2.out b3 (Blk.lt (w := w2.drew) HBR2.out))
  have RF1 := Lib.hid (ownsRow_below (w := w2.drew) RF2'.out b3)
  have d0 := Blk.cell HBR1.out 0
  have d1 := Blk.cell HBR1.out 1
  have f0 := Blk.frozen HBR1.out 0
  have f1 := Blk.frozen HBR1.out 1
  simp only [List.getElem?_toArray, List.getElem?_cons_zero, List.getElem?_cons_succ] at d0 d1
  clear HL b3 HBX3 HBX2 HBR2 HB2' RF2' c0 c1
  generalize w3 = w1 at *
  go_wp2_with fail
  have hz := Blk.set_ (Blk.set_ HBR1.out 0 (.int .i64 most)) 1 (.slice p l.length cap)
  have e0 := Blk.cell hz 0
  have e1 := Blk.cell hz 1
  simp only [List.setIfInBounds_toArray, List.set_cons_zero, List.set_cons_succ, List.getElem?_toArray, List.getElem?_cons_zero, List.getElem?_cons_succ] at e0 e1
  have HB2 : Hid (Below w.heap.size w ((w1.setCell ⟨w.heap.size + 1, 0, none⟩ (.int .i64 most)).setCell ⟨w.heap.size + 1, 1, none⟩ (.slice p l.length cap))) := (HB1.out.setCell (by simp) _).setCell (by simp) _
  have HNE : (Value.slice p l.length cap).ownBlock ≠ some (w.heap.size + 1) := fun e => by have := HG.out _ e; omega
  have RF2 : Hid (((w1.setCell ⟨w.heap.size + 1, 0, none⟩ (.int .i64 most)).setCell ⟨w.heap.size + 1, 1, none⟩ (.slice p l.length cap)).ownsRow B 109 2 (.slice p l.length cap) l.length (rfCells l)) := owns_set (owns_set RF1.out HNE 0 _) HNE 1 _
  clear hz HBR1 HB1 RF1 k0 k1 d0 d1 f0 f1 HNE HG
  generalize (w1.setCell ⟨w.heap.size + 1, 0, none⟩ (.int .i64 most)).setCell ⟨w.heap.size + 1, 1, none⟩ (.slice p l.length cap) = W2 at *
  refine bodyPost_ret (v := .tuple #[.agg #[.int .i64 most, .slice p l.length cap], .int .i64 0, .int .i64 7]) (by simp [results, Tryz.results40, go_sem, e0, e1]) rfl ⟨p, cap, rfl, ownsRow_low RF2.out (Nat.zero_le _), .inl rfl, HB2.out⟩
set_option maxHeartbeats 2000000 in
set_option maxRecDepth 100000 in
theorem radd_there (hd : Distinct l) (hv : validB s.data.toList = true) (k : Nat) (hf : findN l s.data.toList = some k) (hr1 : (nmAt l k).2 < 2147483647) :
    Calls Tryz.prog 40 #[.agg #[.int .i64 most, .slice p l.length cap], .string s] w (RTab w most p (addM most l s.data.toList).1 (.int .i64 (addM most l s.data.toList).2.1) (addM most l s.data.toList).2.2) := by
  have hB : Below w.heap.size w ((w.alloc (.cells #[.int .i64 most, .slice p l.length cap] 31)).alloc (.cells #[.int .i64 0, .slice none 0 0] 31)) := ((Below.refl _ _).alloc (Nat.le_refl _) _).alloc (by simp) _
  have hbx := Blk.alloc (Blk.new w 31 #[.int .i64 most, .slice p l.length cap]) (.cells #[.int .i64 0, .slice none 0 0] 31)
  have hbr := Blk.new (w.alloc (.cells #[.int .i64 most, .slice p l.length cap] 31)) 31 #[.int .i64 0, .slice none 0 0]
  rw [show (w.alloc (.cells #[.int .i64 most, .slice p l.length cap] 31)).heap.size = w.heap.size + 1 by simp] at hbr
  have RF1 := Lib.hid (ownsRow_below h hB)
  obtain ⟨hlive, htext⟩ := findN_some hf
  have hkl := live_lt hlive
  have hr0 : 0 < (nmAt l k).2 := by unfold liveB at hlive; simpa using hlive
  have HM : Hid (addM most l s.data.toList = (l.set k (s.data.toList, (nmAt l k).2 + 1), (k : Int), 0)) := by unfold Hid addM; rw [if_pos hv, hf]
  have HTX := Lib.hid htext
  clear hlive htext
  have HG : Hid (∀ g, (Value.slice p l.length cap).ownBlock = some g → g < w.heap.size) := fun g hg => ownsRow_lt h hg
  have HB1 := Lib.hid hB
  have HV := Lib.hid (fun w' => rvalid_any s w')
  rw [hv] at HV
  have HBR1 := Lib.hid hbr
  clear h hB hv
  go_enter Tryz.func40, Tryz.ntmps40
  go_wp2_with fail
  generalize (w.alloc (.cells #[.int .i64 most, .slice p l.length cap] 31)).alloc (.cells #[.int .i64 0, .slice none 0 0] 31) = w1 at *
  have c0 := Blk.cell hbx 0
  have c1 := Blk.cell hbx 1
  have d0 := Blk.cell hbr 0
  have d1 := Blk.cell hbr 1
  have f0 := Blk.frozen hbr 0
  have f1 := Blk.frozen hbr 1
  simp only [List.getElem?_toArray, List.getElem?_cons_zero, List.getElem?_cons_succ] at c0 c1 d0 d1
  clear hbr
  refine (HV.out _).mono ?_
  rintro e w' ⟨rfl, rfl⟩
  have HF := rfind_any RF1.out hl most hd s
  rw [hf] at HF
  have HF : Hid (Calls _ _ _ _ fun e w' => e = .returned (.int .i64 (k : Int)) ∧ _) := HF
  have HBX1 := Lib.hid hbx
  clear hd hf hbx
  go_wp2_with fail
  refine HF.out.mono ?_
  rintro e w2 ⟨rfl, b2⟩
  have HBX2 := Lib.hid (Blk.below HBX1.out b2 (Blk.lt HBX1.out))
  have HBR2 := Lib.hid (Blk.below HBR1.out b2 (Blk.lt HBR1.out))
  have HB2' : Hid (Below w.heap.size w w2) := HB1.out.trans (b2.mono HB1.out.size)
  have RF2' := Lib.hid (ownsRow_below RF1.out b2)
  have c0 := Blk.cell HBX2.out 0
  have c1 := Blk.cell HBX2.out 1
  simp only [List.getElem?_toArray, List.getElem?_cons_zero, List.getElem?_cons_succ] at c0 c1
  clear HF b2 HBX1 HBR1 HB1 RF1 d0 d1 f0 f1
  have hk0 : ((k : Int) < 0) = False := by simp
  obtain ⟨g, rfl, hg⟩ := Rf.ptr RF2'.out (by omega)
  go_wp2_with fail
  go_quiet (fail)
  have HB1 : Hid (Below w.heap.size w (w2.drewN nq)) := below_drewN HB2'.out _
  have HBR1 : Hid (Blk (w2.drewN nq) (w.heap.size + 1) 31 #[.int .i64 0, .slice none 0 0]) := HBR2.out
  have HBX1 : Hid (Blk (w2.drewN nq) w.heap.size 31 #[.int .i64 most, .slice (some ⟨g, 0, none⟩) l.length cap]) := HBX2.out
  have RF1 : Hid ((w2.drewN nq).ownsRow B 109 2 (.slice (some ⟨g, 0, none⟩) l.length cap) l.length (rfCells l)) := RF2'.out
  clear HB2' HBR2 HBX2 RF2' c0 c1
  generalize w2.drewN nq = w1 at *
  have c0 := Blk.cell HBX1.out 0
  have c1 := Blk.cell HBX1.out 1
  have d0 := Blk.cell HBR1.out 0
  have d1 := Blk.cell HBR1.out 1
  have fA := Blk.frozen HBX1.out 1
  have f0 := Blk.frozen HBR1.out 0
  have f1 := Blk.frozen HBR1.out 1
  simp only [List.getElem?_toArray, List.getElem?_cons_zero, List.getElem?_cons_succ] at c0 c1 d0 d1
  obtain ⟨i0, hi, hz0, hz1, hz2⟩ := info_parts info_rname
  go_wp2_with (at_builtin; refine wpList_append_lies _ rfl _ _ 29 rfl w1.heap.size 109 i0 (.agg #[.string ⟨#[]⟩, .int .i64 0]) 2 24 Tryz.underlying29 hi hz0 hz1 hz2 rfl (by decide) _ _ _ rfl (World.ownsRow_nil _ _ _ _) ⟨g, 0, none⟩ l.length cap (rfCells l) rfl (rfCells_len l) ?c1 (rfCells_one l) (by omega) (by unfold maxLen; omega) (by omega) (Nat.le_refl _) w1.heap.size rfl ?_)
  case c1 => intro j u hj; rw [addr_add0]; exact (RF1.out.cellAt j (by have := (List.getElem?_eq_some_iff.1 hj).1; rw [rfCells_len] at this; exact this)).trans hj
  intro g1 cap1 w2 o2 g2 _ hg1
  have g2' : w1.grownBy w2 none := g2
  have b2 : Below w1.heap.size w1 w2 := (Below.refl w1.heap.size w1).grown g2' (Nat.le_refl _) (fun j hj => by cases hj)
  have hAl : w.heap.size + 1 < w1.heap.size := Blk.lt HBR1.out
  have hg1A : w1.heap.size ≤ g1 := (o2.lt g1 rfl).1
  have c0 := (b2.cell (p := ⟨w.heap.size, 0, none⟩) (by show w.heap.size < _; omega)).trans c0
  have c1 := (b2.cell (p := ⟨w.heap.size, 1, none⟩) (by show w.heap.size < _; omega)).trans c1
  have f2 := (b2.frozen (p := ⟨w.heap.size, 1, none⟩) (by show w.heap.size < _; omega)).trans fA
  have d0 := (b2.cell (p := ⟨w.heap.size + 1, 0, none⟩) hAl).trans d0
  have d1 := (b2.cell (p := ⟨w.heap.size + 1, 1, none⟩) hAl).trans d1
  have f0 := (b2.frozen (p := ⟨w.heap.size + 1, 0, none⟩) hAl).trans f0
  have f1 := (b2.frozen (p := ⟨w.heap.size + 1, 1, none⟩) hAl).trans f1
  obtain ⟨n0, n1⟩ := Rf.at o2 hkl
  have fk := o2.frozenAt (k * 2 + 1)
  have fk0 := o2.frozenAt (k * 2)
  have hne1 : ¬ g1 = w.heap.size := by omega
  have hne2 : ¬ g1 = w.heap.size + 1 := by omega
  have O2 := Lib.hid o2
  clear g2 g2' o2
  generalize hrr : (nmAt l k).2 = r at *
  have HRR := Lib.hid hrr
  clear hrr
  have HBR2 := Lib.hid (Blk.below HBR1.out b2 hAl)
  have HB2 : Hid (Below w.heap.size w w2) := HB1.out.trans (b2.mono HB1.out.size)
  clear b2
  go_wp2_with fail
  have z := Blk.set_ (Blk.set_ (Blk.far (p := ⟨g1, k * 2 + 1, none⟩) (Blk.far (p := ⟨w.heap.size, 1, none⟩) HBR2.out (by simp) (.slice (some ⟨g1, 0, none⟩) l.length cap1)) (by simp; omega) (.int .i64 (r + 1))) 0 (.int .i64 most)) 1 (.slice (some ⟨g1, 0, none⟩) l.length cap1)
  have e0 := Blk.cell z 0
  have e1 := Blk.cell z 1
  simp only [List.setIfInBounds_toArray, List.set_cons_zero, List.set_cons_succ, List.getElem?_toArray, List.getElem?_cons_zero, List.getElem?_cons_succ] at e0 e1
  have y1 := owns_set (k := w.heap.size) O2.out (fun e => by simp [Value.ownBlock] at e; omega) 1 (.slice (some ⟨g1, 0, none⟩) l.length cap1)
  have y2 := (y1.stored (k * 2 + 1) (.int .i64 (r + 1))).1
  have y3 := owns_set (k := w.heap.size + 1) (owns_set (k := w.heap.size + 1) y2 (fun e => by simp [Value.ownBlock] at e; omega) 0 (.int .i64 most)) (fun e => by simp [Value.ownBlock] at e; omega) 1 (.slice (some ⟨g1, 0, none⟩) l.length cap1)
  have hbb := (((HB2.out.setCell (p := ⟨w.heap.size, 1, none⟩) (Nat.le_refl _) (.slice (some ⟨g1, 0, none⟩) l.length cap1)).setCell (p := ⟨g1, k * 2 + 1, none⟩) (by show w.heap.size ≤ g1; omega) (.int .i64 (r + 1))).setCell (p := ⟨w.heap.size + 1, 0, none⟩) (by simp) (.int .i64 most)).setCell (p := ⟨w.heap.size + 1, 1, none⟩) (by simp) (.slice (some ⟨g1, 0, none⟩) l.length cap1)
  refine bodyPost_ret (v := .tuple #[.agg #[.int .i64 most, .slice (some ⟨g1, 0, none⟩) l.length cap1], .int .i64 k, .int .i64 0]) (by simp [results, Tryz.results40, go_sem, e0, e1]) rfl ⟨some ⟨g1, 0, none⟩, cap1, by rw [HM.out]; simp only [List.length_set], ?_, .inr (fun g hg => by simp [Value.ownBlock] at hg; omega), hbb⟩
  rw [rfCells_refs hkl, HTX.out] at y3
  rw [HM.out]
  unfold Rf
  rw [List.length_set]
  exact ownsRow_low y3 (Nat.zero_le _)
end
end Go.Proofs.YtfpkeinknhijaaaGreat
