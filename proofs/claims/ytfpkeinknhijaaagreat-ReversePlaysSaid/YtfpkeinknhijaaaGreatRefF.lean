/- The document's Add of a new name. -/
import Derived.Test.YtfpkeinknhijaaaGreatRefE
import Derived.Test.YtfpkeinknhijaaaGreatRow
import Derived.Deep.DeepCutAuto
namespace Go.Proofs.YtfpkeinknhijaaaGreat
set_option linter.unusedVariables false
open Go.RowKit Go.Maps Go.Sort

theorem rfCells_app (l r : Nms) : rfCells (l ++ r) = rfCells l ++ rfCells r := by
  induction l with
  | nil => rfl
  | cons x l ih => simp only [List.cons_append, rfCells, ih]
theorem rfCells_put : ∀ {l : Nms} {k : Nat} {s : List UInt8} {r : Int}, k < l.length → ((rfCells l).set (k * 2) (.string ⟨s.toArray⟩)).set (k * 2 + 1) (.int .i64 r) = rfCells (l.set k (s, r))
  | [], _, _, _, h => by simp at h
  | x :: l, 0, s, r, _ => by simp [rfCells]
  | x :: l, k + 1, s, r, h => by
    have := rfCells_put (l := l) (k := k) (s := s) (r := r) (by simp at h; omega)
    rw [show (k + 1) * 2 = k * 2 + 1 + 1 by omega]
    simp only [rfCells, List.set_cons_succ] at this ⊢
    rw [this]
theorem lies_one {w : World} {g c : Nat} {e : TypeId} {x y : Value} (h : Blk w g e #[x, y]) : Lies w 2 (.slice (some ⟨g, 0, none⟩) 1 c) 1 [x, y] := by
  refine ⟨_, c, rfl, rfl, .inr ⟨_, rfl, fun j u hj => ?_⟩⟩
  rw [addr_add, Nat.zero_add, Blk.cell h j]
  simpa using hj
theorem ownsRow_slice {w : World} {B : Nat} {e : TypeId} {s : Nat} {v : Value} {n : Nat} {xs : List Value} (h : w.ownsRow B e s v n xs) : ∃ p c, v = .slice p n c ∧ (p = none ∨ ∃ g, p = some ⟨g, 0, none⟩ ∧ B ≤ g ∧ g < w.heap.size) := by
  rcases h.2 with ⟨rfl, rfl⟩ | ⟨g, cap, cur, rfl, hb, hg, _⟩
  · exact ⟨none, 0, rfl, .inl rfl⟩
  · exact ⟨_, cap, rfl, .inr ⟨g, rfl, hb, (Array.getElem?_eq_some_iff.1 hg).1⟩⟩

section
variable {w : World} {B cap : Nat} {p : Option Addr} {l : Nms} (h : Rf w B p cap l) (hl : l.length ≤ 99999) (most : Int) (s : ByteArray)
include h hl
set_option maxHeartbeats 2000000 in
set_option maxRecDepth 100000 in
theorem radd_new (hd : Distinct l) (hv : validB s.data.toList = true) (hf : findN l s.data.toList = none) (hm : liveN l < most) :
    Calls Tryz.prog 40 #[.agg #[.int .i64 most, .slice p l.length cap], .string s] w (RTab w most p (addM most l s.data.toList).1 (.int .i64 (addM most l s.data.toList).2.1) (addM most l s.data.toList).2.2) := by
  have hB : Below w.heap.size w ((w.alloc (.cells #[.int .i64 most, .slice p l.length cap] 31)).alloc (.cells #[.int .i64 0, .slice none 0 0] 31)) := ((Below.refl _ _).alloc (Nat.le_refl _) _).alloc (by simp) _
  have hbx := Blk.alloc (Blk.new w 31 #[.int .i64 most, .slice p l.length cap]) (.cells #[.int .i64 0, .slice none 0 0] 31)
  have hbr := Blk.new (w.alloc (.cells #[.int .i64 most, .slice p l.length cap] 31)) 31 #[.int .i64 0, .slice none 0 0]
  rw [show (w.alloc (.cells #[.int .i64 most, .slice p l.length cap] 31)).heap.size = w.heap.size + 1 by simp] at hbr
  have RF1 := Lib.hid (ownsRow_below h hB)
  have HM : Hid (addM most l s.data.toList = (putL l (lowest l) (s.data.toList, 1), (lowest l : Int), 0)) := by
    unfold Hid addM
    rw [if_pos hv, hf]
    show (if most ≤ (liveN l : Int) then _ else _) = _
    rw [if_neg (by omega)]
  have HG : Hid (∀ g, (Value.slice p l.length cap).ownBlock = some g → g < w.heap.size) := fun g hg => ownsRow_lt h hg
  have HB1 := Lib.hid hB
  have HV := Lib.hid (fun w' => rvalid_any s w')
  rw [hv] at HV
  have HBR1 := Lib.hid hbr
  clear h hB hv
  go_enter Tryz.func40, Tryz.ntmps40
  go_wp2_with fail
  generalize (w.alloc (.cells #[.int .i64 most, .slice p l.length cap] 31)).alloc (.cells #[.int .i64 0, .slice none 0 0] 31) = w1 at *
  have c0 := Blk.cell hbx 0
  have c1 := Blk.cell hbx 1
  have d0 := Blk.cell hbr 0
  have d1 := Blk.cell hbr 1
  have f0 := Blk.frozen hbr 0
  have f1 := Blk.frozen hbr 1
  simp only [List.getElem?_toArray, List.getElem?_cons_zero, List.getElem?_cons_succ] at c0 c1 d0 d1
  clear hbr
  refine (HV.out _).mono ?_
  rintro e w' ⟨rfl, rfl⟩
  have HF := rfind_any RF1.out (by omega) most hd s
  rw [hf] at HF
  have HF : Hid (Calls _ _ _ _ fun e w' => e = .returned (.int .i64 (-1)) ∧ _) := HF
  have HBX1 := Lib.hid hbx
  clear hd hf hbx
  go_wp2_with fail
  refine HF.out.mono ?_
  rintro e w2 ⟨rfl, b2⟩
  have HBX2 := Lib.hid (Blk.below HBX1.out b2 (Blk.lt HBX1.out))
  have HBR2 := Lib.hid (Blk.below HBR1.out b2 (Blk.lt HBR1.out))
  have HB2' : Hid (Below w.heap.size w w2) := HB1.out.trans (b2.mono HB1.out.size)
  have RF2' := Lib.hid (ownsRow_below RF1.out b2)
  have c0 := Blk.cell HBX2.out 0
  have c1 := Blk.cell HBX2.out 1
  simp only [List.getElem?_toArray, List.getElem?_cons_zero, List.getElem?_cons_succ] at c0 c1
  clear HF b2 HBX1 HBR1 HB1 RF1 d0 d1 f0 f1
  go_wp2_with fail
  have HL := Lib.hid (rlen_any (w := w2.drew) RF2'.out (by omega) most)
  go_region_held3 (fun w' => w'.cell? ⟨w.heap.size, 0, none⟩ = some (.int .i64 most) ∧ w'.cell? ⟨w.heap.size, 1, none⟩ = some (.slice p l.length cap)) (go_keep) (first
    | (go_at_call 30; refine HL.out.mono ?_; rintro e w3 ⟨rfl, b3⟩; have HBX3 := Lib.hid (Blk.below (w := w2.drew) HBX2.out b3 (Blk.lt (w := w2.drew) HBX2.out)); have k0 := Blk.cell HBX3.out 0; have k1 := Blk.cell HBX3.out 1; simp only [List.getElem?_toArray, List.getElem?_cons_zero, List.getElem?_cons_succ] at k0 k1))
  have HB1 : Hid (Below w.heap.size w w3) := (HB2'.out.drew).trans (b3.mono HB2'.out.size)
  have HBR1 := Lib.hid (Blk.below (w := w2.drew) HBR2.out b3 (Blk.lt (w := w2.drew) HBR2.out))
  have RF1 := Lib.hid (ownsRow_below (w := w2.drew) RF2'.out b3)
  have HBX1 := HBX3
  clear HL b3 HBX3 HBX2 HBR2 HB2' RF2' c0 c1
  generalize w3 = w1 at *
  have hAl : w.heap.size + 1 < w1.heap.size := Blk.lt HBR1.out
  have fA := Blk.frozen HBX1.out 1
  obtain ⟨i0, hi, hz0, hz1, hz2⟩ := info_parts info_rname
  go_wp2_with (at_builtin; refine wpList_append_lying _ rfl _ _ 29 rfl w1.heap.size 109 i0 (.agg #[.string ⟨#[]⟩, .int .i64 0]) 2 24 Tryz.underlying29 hi hz0 hz1 hz2 rfl (by decide) _ _ _ rfl (World.ownsRow_nil _ _ _ _) _ l.length (rfCells l) rfl (Lies.of_own RF1.out) (rfCells_one l) (by unfold maxLen; omega) (by omega) (Nat.le_refl _) ?_)
  intro v2 w2 o2 g2 _
  have g2' : w1.grownBy w2 none := g2
  have b2 : Below w1.heap.size w1 w2 := (Below.refl w1.heap.size w1).grown g2' (Nat.le_refl _) (fun j hj => by cases hj)
  have o2' : w2.ownsRow w1.heap.size 109 2 v2 l.length (rfCells l) := by simpa using o2
  obtain ⟨p2, c2, rfl, hp2⟩ := ownsRow_slice o2'
  have HBX2 := Lib.hid (Blk.below HBX1.out b2 (by omega))
  have HBR2 := Lib.hid (Blk.below HBR1.out b2 hAl)
  have HB2 : Hid (Below w.heap.size w w2) := HB1.out.trans (b2.mono HB1.out.size)
  have RF2 : Hid (w2.ownsRow (w.heap.size + 2) 109 2 (.slice p2 l.length c2) l.length (rfCells l)) := ownsRow_low o2' (by omega)
  have f2 := Blk.frozen HBX2.out 1
  have e0 := Blk.cell HBX2.out 0
  have e1 := Blk.cell HBX2.out 1
  simp only [List.getElem?_toArray, List.getElem?_cons_zero, List.getElem?_cons_succ] at e0 e1
  clear o2 g2 g2' b2 o2' hp2 HBX1 HBR1 HB1 RF1 k0 k1 fA
  go_wp2_with fail
  have HBX3 := Lib.hid (Blk.set_ HBX2.out 1 (.slice p2 l.length c2))
  simp only [List.setIfInBounds_toArray, List.set_cons_zero, List.set_cons_succ] at HBX3
  have HBR3 := Lib.hid (Blk.far (p := ⟨w.heap.size, 1, none⟩) HBR2.out (by simp) (.slice p2 l.length c2))
  have HB3 : Hid (Below w.heap.size w (w2.setCell ⟨w.heap.size, 1, none⟩ (.slice p2 l.length c2))) := HB2.out.setCell (by simp) _
  have RF3 : Hid (Rf (w2.setCell ⟨w.heap.size, 1, none⟩ (.slice p2 l.length c2)) (w.heap.size + 2) p2 c2 l) := owns_set (k := w.heap.size) RF2.out (fun e => by have := RF2.out.lt _ e; omega) 1 _
  clear HBX2 HBR2 HB2 RF2 f2 e0 e1
  generalize w2.setCell ⟨w.heap.size, 1, none⟩ (.slice p2 l.length c2) = W3 at *
  have hlo := lowest_le l
  go_loopg [7] (lowest l) (fun r n wr => ∃ k : Nat, k ≤ lowest l ∧ r + k = lowest l ∧ n = .int .i64 k ∧ Blk wr w.heap.size 31 #[.int .i64 most, .slice p2 l.length c2] ∧ Blk wr (w.heap.size + 1) 31 #[.int .i64 0, .slice none 0 0] ∧ Rf wr (w.heap.size + 2) p2 c2 l ∧ Below w.heap.size w wr)
  case atStart => exact ⟨0, by omega, by omega, rfl, HBX3.out, HBR3.out, RF3.out, HB3.out⟩
  case round =>
    clear HBX3 HBR3 RF3 HB3
    obtain ⟨k, hk, hr, rfl, hbx, hbr, hrf, hbb⟩ := hrel
    have HK := Lib.hid hr
    have HBX := Lib.hid hbx
    have HBR := Lib.hid hbr
    have RF := Lib.hid hrf
    have HB := Lib.hid hbb
    have hAr : w.heap.size + 1 < wr.heap.size := Blk.lt hbr
    have c0 := Blk.cell hbx 0
    have c1 := Blk.cell hbx 1
    simp only [List.getElem?_toArray, List.getElem?_cons_zero, List.getElem?_cons_succ] at c0 c1
    have HH := rhas_any hrf (by omega) most k
    clear hr hbx hbr hrf hbb
    by_cases hlt : k < lowest l
    · have hh : hasM l k = true := by unfold hasM; simp [lowest_min l hlt]
      rw [hh] at HH
      have HH := Lib.hid HH
      clear hh
      go_wp2_with fail
      refine HH.out.mono ?_
      rintro e w4 ⟨rfl, b4⟩
      have HBX4 := Lib.hid (Blk.below HBX.out b4 (by omega))
      have HBR4 := Lib.hid (Blk.below HBR.out b4 hAr)
      have RF4 := Lib.hid (ownsRow_below RF.out b4)
      have HB4 : Hid (Below w.heap.size w w4) := HB.out.trans (b4.mono HB.out.size)
      clear HH b4 HBX HBR RF HB c0 c1
      go_wp2_with fail
      go_roundg (gk - 1)
      case measure => have := HK.out; omega
      case rel => exact ⟨k + 1, by omega, by have := HK.out; omega, by go_num, HBX4.out, HBR4.out, RF4.out, HB4.out⟩
    · obtain rfl : k = lowest l := by omega
      have hh : hasM l (lowest l : Nat) = false := by unfold hasM; simp [lowest_dead l]
      rw [hh] at HH
      have HH := Lib.hid HH
      clear hh
      go_wp2_with fail
      refine HH.out.mono ?_
      rintro e w4 ⟨rfl, b4⟩
      have HBX4 := Lib.hid (Blk.below HBX.out b4 (by omega))
      have HBR4 := Lib.hid (Blk.below HBR.out b4 hAr)
      have RF4 := Lib.hid (ownsRow_below RF.out b4)
      have HB4 : Hid (Below w.heap.size w w4) := HB.out.trans (b4.mono HB.out.size)
      have hA4 : w.heap.size + 1 < w4.heap.size := Blk.lt HBR4.out
      have c0 := Blk.cell HBX4.out 0
      have c1 := Blk.cell HBX4.out 1
      simp only [List.getElem?_toArray, List.getElem?_cons_zero, List.getElem?_cons_succ] at c0 c1
      have fA := Blk.frozen HBX4.out 1
      clear HH b4 HBX HBR RF HB
      go_upto_if 40 with (fail)
      go_cut [] (fun wx => ∃ (p3 : Option Addr) (c3 : Nat) (l3 : Nms), Rf wx (w.heap.size + 2) p3 c3 l3 ∧ lowest l < l3.length ∧ l3.set (lowest l) (s.data.toList, 1) = putL l (lowest l) (s.data.toList, 1) ∧ Blk wx w.heap.size 31 #[.int .i64 most, .slice p3 l3.length c3] ∧ Blk wx (w.heap.size + 1) 31 #[.int .i64 0, .slice none 0 0] ∧ Below w.heap.size w wx)
      case first =>
        clear hm
        by_cases hlt2 : lowest l < l.length
        · have b1 : ¬ (lowest l : Int) = l.length := by omega
          go_wp2_with fail
          go_meet
          exact ⟨p2, c2, l, RF4.out, hlt2, by unfold putL; rw [if_pos hlt2], HBX4.out, HBR4.out, HB4.out⟩
        · have hE : lowest l = l.length := by omega
          have HE := Lib.hid hE
          have b1 : decide ((lowest l : Int) = l.length) = true := by rw [decide_eq_true_eq]; omega
          have HLB := Lib.hid (lies_one (Blk.new w4 109 #[.string ⟨#[]⟩, .int .i64 0]) (c := 1))
          clear hE
          go_wp2_with (at_builtin; refine wpList_append_lying _ rfl _ _ 29 rfl (w.heap.size + 2) 109 i0 (.agg #[.string ⟨#[]⟩, .int .i64 0]) 2 24 Tryz.underlying29 hi hz0 hz1 hz2 rfl (by decide) _ _ _ rfl (RF4.out.alloc _) _ 1 [.string ⟨#[]⟩, .int .i64 0] rfl HLB.out (by intro u hu; simp at hu; rcases hu with rfl | rfl <;> rfl) (by unfold maxLen; omega) (by omega) (by simp; omega) ?_)
          intro v5 w5 o5 g5 _
          have hrow := RF4.out.alloc (.cells #[.string ⟨#[]⟩, .int .i64 0] 109)
          have HB5 : Hid (Below w.heap.size w w5) := (HB4.out.alloc HB4.out.size _).grown g5 (by have := HB4.out.size; simp; omega) (fun j hj => by have := (hrow.lt j hj).1; omega)
          have HBX5 := Lib.hid (Blk.grown (Blk.alloc HBX4.out _) g5 (fun e => by have := (hrow.lt _ e.symm).1; omega))
          have HBR5 := Lib.hid (Blk.grown (Blk.alloc HBR4.out _) g5 (fun e => by have := (hrow.lt _ e.symm).1; omega))
          have o5' : w5.ownsRow (w.heap.size + 2) 109 2 v5 (l ++ [([], 0)]).length (rfCells (l ++ [([], 0)])) := by
            rw [rfCells_app, List.length_append]
            exact o5
          obtain ⟨p5, c5, rfl, _⟩ := ownsRow_slice o5'
          have RF5 := Lib.hid o5'
          have e0 := Blk.cell HBX5.out 0
          have e1 := Blk.cell HBX5.out 1
          simp only [List.getElem?_toArray, List.getElem?_cons_zero, List.getElem?_cons_succ] at e0 e1
          have fB := Blk.frozen HBX5.out 1
          clear o5 g5 o5' hrow HLB HBX4 HBR4 RF4 HB4 c0 c1 fA
          go_wp2_with fail
          go_meet
          have z1 := Blk.set_ HBX5.out 1 (.slice p5 (l ++ [([], 0)]).length c5)
          simp only [List.setIfInBounds_toArray, List.set_cons_zero, List.set_cons_succ] at z1
          refine ⟨p5, c5, l ++ [([], 0)], owns_set (k := w.heap.size) RF5.out (fun e => by have := (RF5.out.lt _ e).1; omega) 1 _, by simp; omega, ?_, by simpa only [List.length_append, List.length_cons, List.length_nil, Nat.zero_add] using z1, Blk.far (p := ⟨w.heap.size, 1, none⟩) HBR5.out (by simp) _, HB5.out.setCell (by simp) _⟩
          unfold putL
          rw [if_neg hlt2, HE.out]
          simp
      case rest =>
        clear HBX4 HBR4 RF4 HB4 c0 c1 fA hA4
        obtain ⟨p3, c3, l3, rf, hlt3, hset, hbx, hbr, hbb⟩ := hcut
        have HSET := Lib.hid hset
        have HB6 := Lib.hid hbb
        have RF6 := Lib.hid rf
        have HBR6 := Lib.hid hbr
        have HBX6 := Lib.hid hbx
        obtain ⟨g, rfl, hg⟩ := Rf.ptr rf (by omega)
        have hgA : w.heap.size + 2 ≤ g := (rf.lt g rfl).1
        have c0 := Blk.cell hbx 0
        have c1 := Blk.cell hbx 1
        have d0 := Blk.cell hbr 0
        have d1 := Blk.cell hbr 1
        have f0 := Blk.frozen hbr 0
        have f1 := Blk.frozen hbr 1
        simp only [List.getElem?_toArray, List.getElem?_cons_zero, List.getElem?_cons_succ] at c0 c1 d0 d1
        obtain ⟨n0, n1⟩ := Rf.at rf hlt3
        have fk := rf.frozenAt (lowest l * 2 + 1)
        have fk0 := rf.frozenAt (lowest l * 2)
        have hne1 : ¬ g = w.heap.size := by omega
        have hne2 : ¬ g = w.heap.size + 1 := by omega
        clear hset hbb rf hbr hbx hm
        generalize lowest l = K at *
        go_wp2_with fail
        have z := Blk.set_ (Blk.set_ (Blk.far (p := ⟨g, K * 2 + 1, none⟩) (Blk.far (p := ⟨g, K * 2 + 1, none⟩) (Blk.far (p := ⟨g, K * 2, none⟩) HBR6.out (by simp; omega) (.string s)) (by simp; omega) (.int .i64 0)) (by simp; omega) (.int .i64 1)) 0 (.int .i64 most)) 1 (.slice (some ⟨g, 0, none⟩) l3.length c3)
        have e0 := Blk.cell z 0
        have e1 := Blk.cell z 1
        simp only [List.setIfInBounds_toArray, List.set_cons_zero, List.set_cons_succ, List.getElem?_toArray, List.getElem?_cons_zero, List.getElem?_cons_succ] at e0 e1
        have y2 := (((RF6.out.stored (K * 2) (.string s)).1.stored (K * 2 + 1) (.int .i64 0)).1.stored (K * 2 + 1) (.int .i64 1)).1
        have y3 := owns_set (k := w.heap.size + 1) (owns_set (k := w.heap.size + 1) y2 (fun e => by simp [Value.ownBlock] at e; omega) 0 (.int .i64 most)) (fun e => by simp [Value.ownBlock] at e; omega) 1 (.slice (some ⟨g, 0, none⟩) l3.length c3)
        have hbb := ((((HB6.out.setCell (p := ⟨g, K * 2, none⟩) (by show w.heap.size ≤ g; omega) (.string s)).setCell (p := ⟨g, K * 2 + 1, none⟩) (by show w.heap.size ≤ g; omega) (.int .i64 0)).setCell (p := ⟨g, K * 2 + 1, none⟩) (by show w.heap.size ≤ g; omega) (.int .i64 1)).setCell (p := ⟨w.heap.size + 1, 0, none⟩) (by simp) (.int .i64 most)).setCell (p := ⟨w.heap.size + 1, 1, none⟩) (by simp) (.slice (some ⟨g, 0, none⟩) l3.length c3)
        have hlen : (putL l K (s.data.toList, 1)).length = l3.length := by rw [← HSET.out, List.length_set]
        refine bodyPost_ret (v := .tuple #[.agg #[.int .i64 most, .slice (some ⟨g, 0, none⟩) l3.length c3], .int .i64 K, .int .i64 0]) (by simp [results, Tryz.results40, go_sem, e0, e1]) rfl ⟨some ⟨g, 0, none⟩, c3, by rw [HM.out]; simp only [hlen], ?_, .inr (fun g hg => by simp [Value.ownBlock] at hg; omega), hbb⟩
        rw [List.set_set, show (Value.string s) = .string ⟨s.data.toList.toArray⟩ by simp, rfCells_put hlt3, HSET.out] at y3
        rw [HM.out]
        unfold Rf
        rw [hlen]
        exact ownsRow_low y3 (Nat.zero_le _)
end
end Go.Proofs.YtfpkeinknhijaaaGreat
