/- The document's Sorted. -/
import Derived.Test.YtfpkeinknhijaaaGreatRefB0
import Derived.Test.YtfpkeinknhijaaaGreatSlc
namespace Go.Proofs.YtfpkeinknhijaaaGreat
set_option linter.unusedVariables false
open Go.RowKit Go.Maps Go.Sort

def SortP (w : World) (ss : List (List UInt8)) (e : Ending) (w' : World) : Prop := ∃ v, e = .returned v ∧ w'.ownsRow w.heap.size 9 1 v (isortB ss).length ((isortB ss).map encStr) ∧ Below w.heap.size w w'
set_option maxHeartbeats 4000000 in
set_option maxRecDepth 100000 in
theorem sorted_any (p : Option Addr) (cap : Nat) (l : List (List UInt8)) (w : World) (h : Reads w (.slice p l.length cap) (l.map encStr)) (hl : l.length ≤ 100000) :
    Calls Tryz.prog 59 #[.slice p l.length cap] w (SortP w l) := by
  have hcells : ∀ i x, l[i]? = some x → ∃ blk off, p = some ⟨blk, off, none⟩ ∧ blk < w.heap.size ∧ w.cell? ⟨blk, off + i, none⟩ = some (.string ⟨x.toArray⟩) := by
    obtain ⟨p', cap', he, _, h2⟩ := h
    rw [List.length_map] at he h2
    injection he with he1 _ he3
    subst he1 he3
    intro i x hx
    rcases h2 with h0 | ⟨blk, off, hp, hb, _, hc⟩
    · rw [List.eq_nil_of_length_eq_zero h0] at hx; cases hx
    · exact ⟨blk, off, hp, hb, hc i _ (encStr_getElem l i x hx)⟩
  have HC := Lib.hid hcells
  clear h hcells
  obtain ⟨i0, hi, hz0, hz1, hz2⟩ := info_parts info_str
  go_enter Tryz.func59, Tryz.ntmps59
  go_wp2_with fail
  go_loopg [3, 4] l.length (fun r v i wr => ∃ k : Nat, k ≤ l.length ∧ r + k = l.length ∧ i = .int .i64 k ∧ wr.ownsRow w.heap.size 9 1 v (isortB (l.take k)).length ((isortB (l.take k)).map encStr) ∧ Below w.heap.size w wr ∧ Hid (k = 0 → v = .slice none 0 0))
  case atStart => exact ⟨0, by omega, by omega, rfl, World.ownsRow_nil _ _ _ _, Below.refl _ _, fun _ => rfl⟩
  case round =>
    obtain ⟨k, hk, hr, rfl, hown, hbl, HZ⟩ := hrel
    have HR := Lib.hid hr
    have HOWN := Lib.hid hown
    have HB := Lib.hid hbl
    obtain ⟨GK, hGK⟩ : ∃ GK, GK = gk := ⟨_, rfl⟩
    have HGK := Lib.hid hGK
    clear hr hown hbl hGK
    by_cases hlt : k < l.length
    · obtain ⟨x, hx⟩ : ∃ x, l[k]? = some x := ⟨l[k], List.getElem?_eq_getElem hlt⟩
      obtain ⟨blk, off, rfl, hb, hc0⟩ := HC.out k x hx
      have hul : (isortB (l.take k)).length ≤ 100000 := by rw [isortB_len, List.length_take]; omega
      have HUN : Hid (isortB (l.take (k + 1)) = insB x (isortB (l.take k))) := by
        unfold Hid
        rw [List.take_add_one, hx]
        exact isortB_snoc _ _
      have hUk : (isortB (l.take k)).length = k := by rw [isortB_len, List.length_take]; omega
      by_cases hk0 : k = 0
      · subst hk0
        have hz := HZ.out rfl
        subst hz
        have HNEW : Hid (isortB (l.take (0 + 1)) = [x]) := HUN.out
        have hcell : wr.cell? ⟨blk, off, none⟩ = some (.string ⟨x.toArray⟩) := by
          rw [HB.out.cell (p := ⟨blk, off, none⟩) hb]; exact hc0
        have HC0 := Lib.hid hc0
        clear hx hc0 HZ HOWN HUN hUk hul
        go_wp2_with fail
        go_loopg [5] 0 (fun r j wi => r = 0 ∧ j = .int .i64 0 ∧ wr = wi)
        case atStart => exact ⟨rfl, rfl, rfl⟩
        case round =>
          obtain ⟨_, rfl, rfl⟩ := hrel
          go_wp2_with fail
          go_quiet (fail)
          go_wp2_with fail
          have hcell2 : (wr.drewN nq).cell? ⟨blk, off, none⟩ = some (.string ⟨x.toArray⟩) := hcell
          have HB2 : Hid (Below w.heap.size w (wr.drewN nq)) := below_drewN HB.out _
          clear hcell HB
          generalize wr.drewN nq = W1 at *
          have hwW := HB2.out.size
          have HN1 : Hid ((W1.drew.alloc (.cells #[.string ⟨x.toArray⟩] 9)).ownsRow w.heap.size 9 1 (.slice (some ⟨W1.heap.size, 0, none⟩) 1 1) 1 [encStr x]) := owns_of_block hwW (Blk.new W1.drew 9 #[.string ⟨x.toArray⟩]) rfl (Nat.le_refl _) (by decide) rfl
          have HRD : Hid (Reads (W1.drew.alloc (.cells #[.string ⟨x.toArray⟩] 9)) (.slice none 0 0) []) := Reads.nil _ _ _
          have HB6 : Hid (∀ w6, (W1.drew.alloc (.cells #[.string ⟨x.toArray⟩] 9)).grownBy w6 (some W1.heap.size) → Below w.heap.size w w6) := fun w6 hg => (HB2.out.drew.alloc hwW _).grown hg (by simp; omega) (fun j hj => by cases hj; exact hwW)
          go_region_held3 (fun w' => w'.cell? ⟨blk, off, none⟩ = some (.string ⟨x.toArray⟩)) (go_keep) (first | (refine step_append_reads (by rfl) _ _ _ (by rfl) w.heap.size 9 i0 (.string ⟨#[]⟩) 16 Tryz.underlying36 hi hz0 hz1 hz2 rfl (.slice (some ⟨W1.heap.size, 0, none⟩) 1 1) 1 [encStr x] (by simp [Act.eval]) HN1.out (.slice none 0 0) [] (by simp [Act.eval]) HRD.out (fun u hu => by cases hu) (by decide) (by decide) (by simp; omega) ?_; intro v6 w6 o6 g6 _; (have hb6 := HB6.out w6 g6); (have hc6 : w6.cell? ⟨blk, off, none⟩ = some (.string ⟨x.toArray⟩) := (hb6.cell (p := ⟨blk, off, none⟩) hb).trans HC0.out)))
          have HB7 := Lib.hid hb6
          have hw6 := hb6.size
          have O6 : Hid (w6.ownsRow w.heap.size 9 1 v6 1 [encStr x]) := o6
          clear hb6 hc6 o6 g6 HB6 HN1 HRD HB2 hcell2
          have HR6 : Hid (Reads w6 v6 [encStr x]) := Reads.of_own O6.out (by simp)
          clear O6
          go_wp2_with (at_builtin; refine wpList_append_reads _ rfl _ _ 36 rfl w.heap.size 9 i0 (.string ⟨#[]⟩) 16 Tryz.underlying36 hi hz0 hz1 hz2 rfl _ _ _ rfl (World.ownsRow_nil _ _ _ _) _ [encStr x] rfl HR6.out (one_strings [x]) (by show 0 + 1 ≤ maxLen; decide) (by show (0 + 1) * 16 ≤ 140737488355328; decide) hw6 ?_)
          intro v8 w8 o8 g8 _
          have HB9 : Hid (Below w.heap.size w w8) := HB7.out.grown g8 hw6 (fun j hj => by cases hj)
          have HO9 : Hid (w8.ownsRow w.heap.size 9 1 v8 (isortB (l.take (0 + 1))).length ((isortB (l.take (0 + 1))).map encStr)) := by
            rw [HNEW.out]
            exact o8
          clear o8 g8 HB7 HR6
          go_wp2_with fail
          go_roundg (GK - 1)
          case measure => have := HR.out; have := HGK.out; omega
          case rel => exact ⟨0 + 1, by omega, by have := HR.out; have := HGK.out; omega, by go_num, HO9.out, HB9.out, fun h => by omega⟩
      have b5 : ¬ (isortB (l.take k)).length = 0 := by omega
      clear HZ hUk hk0
      generalize isortB (l.take k) = U at *
      have HC0 := Lib.hid hc0
      clear hx hc0
      go_wp2_with fail
      obtain ⟨p3, c3, rfl⟩ := owns_form HOWN.out
      go_loopg [5] U.length (fun r j wi => ∃ a : Nat, a ≤ U.length ∧ r + a = U.length ∧ j = .int .i64 a ∧ Hid (∀ y ∈ U.take a, y < x) ∧ wi.ownsRow w.heap.size 9 1 (.slice p3 U.length c3) U.length (U.map encStr) ∧ Below w.heap.size w wi)
      case atStart => exact ⟨0, by omega, by omega, rfl, fun y hy => by simp at hy, HOWN.out, HB.out⟩
      case round =>
        clear HOWN HB
        obtain ⟨a, ha, hr, rfl, HLT, hown, hbl⟩ := hrel
        have HA := Lib.hid hr
        have hcell : wr.cell? ⟨blk, off + k, none⟩ = some (.string ⟨x.toArray⟩) := by
          rw [hbl.cell (p := ⟨blk, off + k, none⟩) hb]; exact HC0.out
        have HOWN := Lib.hid hown
        have HB := Lib.hid hbl
        clear hr hown hbl
        by_cases hal : a < U.length
        · obtain ⟨y, hy⟩ : ∃ y, U[a]? = some y := ⟨U[a], List.getElem?_eq_getElem hal⟩
          obtain ⟨g, cg, he, hgb, hgl⟩ := HOWN.out.form (by omega)
          injection he with he1 _ he3
          subst he1 he3
          have hcu : wr.cell? ⟨g, a, none⟩ = some (.string ⟨y.toArray⟩) := (HOWN.out.cellAt a (by omega)).trans (encStr_getElem U a y hy)
          rcases Classical.em (y < x) with hyx | hyx
          · have c1 : Op.bytesLess y x = true := by rw [bytesLess_eq]; exact decide_eq_true hyx
            have HLT2 : Hid (∀ z ∈ U.take (a + 1), z < x) := by
              rw [List.take_add_one, hy]
              intro z hz
              rcases List.mem_append.1 hz with h | h
              · exact HLT.out z h
              · simp at h; rw [h]; exact hyx
            clear hy hyx HLT
            go_wp2_with fail
            go_quiet (fail)
            go_wp2_with fail
            go_roundg (gk - 1)
            case measure => have := HA.out; omega
            case rel => exact ⟨a + 1, by omega, by have := HA.out; omega, by go_num, HLT2, HOWN.out, below_drewN HB.out _⟩
          · have c1 : Op.bytesLess y x = false := by rw [bytesLess_eq]; exact decide_eq_false hyx
            have HSP : Hid (insB x U = U.take a ++ x :: U.drop a) := insB_split x a U ha HLT.out (.inr ⟨y, hy, hyx⟩)
            have b1 : (a : Int) ≤ (c3 : Int) := by have := row_cap1 HOWN.out; omega
            have b2 : (U.length : Int) ≤ (c3 : Int) := by have := row_cap1 HOWN.out; omega
            have b3 : (a : Int) ≤ (U.length : Int) := by omega
            clear hy hyx HLT
            go_wp2_with fail
            go_quiet (fail)
            go_wp2_with fail
            have hcell2 : (wr.drewN nq).cell? ⟨blk, off + k, none⟩ = some (.string ⟨x.toArray⟩) := hcell
            have HB2 : Hid (Below w.heap.size w (wr.drewN nq)) := below_drewN HB.out _
            have HO2 : Hid ((wr.drewN nq).ownsRow w.heap.size 9 1 (.slice (some ⟨g, 0, none⟩) U.length c3) U.length (U.map encStr)) := HOWN.out
            clear hcell hcu
            generalize wr.drewN nq = W1 at *
            have b4 : ¬ c3 = a := by omega
            have hgW : g < W1.heap.size := row_lt1 HO2.out
            have hwW := HB2.out.size
            have HN1 : Hid ((W1.drew.alloc (.cells #[.string ⟨x.toArray⟩] 9)).ownsRow w.heap.size 9 1 (.slice (some ⟨W1.heap.size, 0, none⟩) 1 1) 1 [encStr x]) := owns_of_block hwW (Blk.new W1.drew 9 #[.string ⟨x.toArray⟩]) rfl (Nat.le_refl _) (by decide) rfl
            have HRD : Hid (Reads (W1.drew.alloc (.cells #[.string ⟨x.toArray⟩] 9)) (.slice (some ⟨g, a, none⟩) (U.length - a) (c3 - a)) ((U.drop a).map encStr)) := reads_drop (ownsRow_below HO2.out (((Below.refl W1.heap.size W1).drew).alloc (Nat.le_refl _) _)) a hul
            have HB6 : Hid (∀ w6, (W1.drew.alloc (.cells #[.string ⟨x.toArray⟩] 9)).grownBy w6 (some W1.heap.size) → Below w.heap.size w w6) := fun w6 hg => (HB2.out.drew.alloc hwW _).grown hg (by simp; omega) (fun j hj => by cases hj; exact hwW)
            have HO6 : Hid (∀ w6, (W1.drew.alloc (.cells #[.string ⟨x.toArray⟩] 9)).grownBy w6 (some W1.heap.size) → w6.ownsRow w.heap.size 9 1 (.slice (some ⟨g, 0, none⟩) U.length c3) U.length (U.map encStr)) := fun w6 hg => (ownsRow_below HO2.out (((Below.refl W1.heap.size W1).drew).alloc (Nat.le_refl _) _)).kept hg (Or.inr (fun e => by simp [Value.ownBlock] at e; omega))
            have hdl : ((U.drop a).map encStr).length = U.length - a := by rw [List.length_map, List.length_drop]
            have HDL := Lib.hid hdl
            clear hdl
            go_region_held3 (fun w' => w'.cell? ⟨blk, off + k, none⟩ = some (.string ⟨x.toArray⟩)) (go_keep) (first | (refine step_append_reads (by rfl) _ _ _ (by rfl) w.heap.size 9 i0 (.string ⟨#[]⟩) 16 Tryz.underlying36 hi hz0 hz1 hz2 rfl (.slice (some ⟨W1.heap.size, 0, none⟩) 1 1) 1 [encStr x] (by simp [Act.eval]) HN1.out (.slice (some ⟨g, a, none⟩) (U.length - a) (c3 - a)) ((U.drop a).map encStr) (by simp [Act.eval]) HRD.out (one_strings _) (by rw [HDL.out]; unfold maxLen; omega) (by rw [HDL.out]; omega) (by simp; omega) ?_; intro v6 w6 o6 g6 _; (have hb6 := HB6.out w6 g6); (have hc6 : w6.cell? ⟨blk, off + k, none⟩ = some (.string ⟨x.toArray⟩) := (hb6.cell (p := ⟨blk, off + k, none⟩) hb).trans HC0.out)))
            have HB7 := Lib.hid hb6
            have hw6 := hb6.size
            have HO7 := Lib.hid (HO6.out w6 g6)
            have O6 := Lib.hid o6
            clear hb6 hc6 o6 g6 HB6 HO6 HN1 HRD HB2 HO2 hcell2 HOWN HB
            have HRT := Lib.hid (reads_take HO7.out a ha hul)
            have htl : ((U.take a).map encStr).length = a := by rw [List.length_map, List.length_take, Nat.min_eq_left ha]
            have HTL := Lib.hid htl
            clear htl
            go_wp2_with (at_builtin; refine wpList_append_reads _ rfl _ _ 36 rfl w.heap.size 9 i0 (.string ⟨#[]⟩) 16 Tryz.underlying36 hi hz0 hz1 hz2 rfl _ _ _ rfl (World.ownsRow_nil _ _ _ _) _ ((U.take a).map encStr) rfl HRT.out (one_strings _) (by rw [HTL.out]; unfold maxLen; omega) (by rw [HTL.out]; omega) hw6 ?_)
            intro v7 w7 o7 g7 _
            have g7' : w6.grownBy w7 none := g7
            have HB8 := Lib.hid (HB7.out.grown g7' hw6 (fun j hj => by cases hj))
            have hw7 := g7'.size
            have O67 := O6.out.kept g7' (Or.inr (by obtain ⟨g6, c6, he, _, _⟩ := O6.out.form (by omega); rw [he]; simp [Value.ownBlock]))
            have HR6 : Hid (Reads w7 v6 (([encStr x] ++ (U.drop a).map encStr))) := Reads.of_own (by
              have e : ([encStr x] ++ (U.drop a).map encStr).length = 1 + ((U.drop a).map encStr).length := by simp; omega
              rw [e]; exact O67) (by have := HDL.out; simp at this ⊢; omega)
            have O7 := Lib.hid o7
            have hxl : ([encStr x] ++ (U.drop a).map encStr).length = 1 + (U.length - a) := by rw [List.length_append, HDL.out]; rfl
            have HXL := Lib.hid hxl
            clear o7 g7 g7' O67 hxl HRT O6 HO7 HB7
            go_wp2_with (at_builtin; refine wpList_append_reads _ rfl _ _ 36 rfl w.heap.size 9 i0 (.string ⟨#[]⟩) 16 Tryz.underlying36 hi hz0 hz1 hz2 rfl _ _ _ rfl O7.out _ ([encStr x] ++ (U.drop a).map encStr) rfl HR6.out ?r1 ?r2 ?r3 (by omega) ?_)
            case r1 => intro u hu; rcases List.mem_append.1 hu with h | h; (rw [List.mem_singleton] at h; subst h; rfl); exact one_strings _ u h
            case r2 => rw [HXL.out]; unfold maxLen; omega
            case r3 => rw [HXL.out]; omega
            intro v8 w8 o8 g8 _
            have HB9 : Hid (Below w.heap.size w w8) := HB8.out.grown g8 (by omega) (fun j hj => (O7.out.lt j hj).1)
            have HO9 : Hid (w8.ownsRow w.heap.size 9 1 v8 (isortB (l.take (k + 1))).length ((isortB (l.take (k + 1))).map encStr)) := by
              rw [HUN.out, insB_len, HSP.out, List.map_append, List.map_cons]
              have e : a + (U.length - a + 1) = U.length + 1 := by omega
              rw [e] at o8
              rw [List.map_take, List.map_drop]
              exact o8
            clear o8 g8 O7 HB8 HR6
            go_wp2_with fail
            go_roundg (GK - 1)
            case measure => have := HR.out; have := HGK.out; omega
            case rel => exact ⟨k + 1, by omega, by have := HR.out; have := HGK.out; omega, by go_num, HO9.out, HB9.out, fun h => by omega⟩
        · obtain rfl : a = U.length := by omega
          have HSP : Hid (insB x U = U.take U.length ++ x :: U.drop U.length) := insB_split x U.length U (Nat.le_refl _) HLT.out (.inl rfl)
          obtain ⟨g, cg, he, hgb, hgl⟩ := HOWN.out.form (by omega)
          · injection he with he1 _ he3
            subst he1 he3
            by_cases b4 : c3 = U.length
            · subst b4
              have b1 : (U.length : Int) ≤ (U.length : Int) := by have := row_cap1 HOWN.out; omega
              have b2 : (U.length : Int) ≤ (U.length : Int) := by have := row_cap1 HOWN.out; omega
              clear HLT
              go_wp2_with fail
              go_quiet (fail)
              go_wp2_with fail
              have hcell2 : (wr.drewN nq).cell? ⟨blk, off + k, none⟩ = some (.string ⟨x.toArray⟩) := hcell
              have HB2 : Hid (Below w.heap.size w (wr.drewN nq)) := below_drewN HB.out _
              have HO2 : Hid ((wr.drewN nq).ownsRow w.heap.size 9 1 (.slice (some ⟨g, 0, none⟩) U.length U.length) U.length (U.map encStr)) := HOWN.out
              clear hcell
              generalize wr.drewN nq = W1 at *
              have hgW : g < W1.heap.size := row_lt1 HO2.out
              have hwW := HB2.out.size
              have HN1 : Hid ((W1.drew.alloc (.cells #[.string ⟨x.toArray⟩] 9)).ownsRow w.heap.size 9 1 (.slice (some ⟨W1.heap.size, 0, none⟩) 1 1) 1 [encStr x]) := owns_of_block hwW (Blk.new W1.drew 9 #[.string ⟨x.toArray⟩]) rfl (Nat.le_refl _) (by decide) rfl
              have HRD : Hid (Reads (W1.drew.alloc (.cells #[.string ⟨x.toArray⟩] 9)) (.slice (some ⟨g, 0, none⟩) 0 0) ((U.drop U.length).map encStr)) := by rw [List.drop_length]; exact Reads.nil _ _ _
              have HB6 : Hid (∀ w6, (W1.drew.alloc (.cells #[.string ⟨x.toArray⟩] 9)).grownBy w6 (some W1.heap.size) → Below w.heap.size w w6) := fun w6 hg => (HB2.out.drew.alloc hwW _).grown hg (by simp; omega) (fun j hj => by cases hj; exact hwW)
              have HO6 : Hid (∀ w6, (W1.drew.alloc (.cells #[.string ⟨x.toArray⟩] 9)).grownBy w6 (some W1.heap.size) → w6.ownsRow w.heap.size 9 1 (.slice (some ⟨g, 0, none⟩) U.length U.length) U.length (U.map encStr)) := fun w6 hg => (ownsRow_below HO2.out (((Below.refl W1.heap.size W1).drew).alloc (Nat.le_refl _) _)).kept hg (Or.inr (fun e => by simp [Value.ownBlock] at e; omega))
              have hdl : ((U.drop U.length).map encStr).length = 0 := by rw [List.length_map, List.length_drop]; omega
              have HDL := Lib.hid hdl
              clear hdl
              go_region_held3 (fun w' => w'.cell? ⟨blk, off + k, none⟩ = some (.string ⟨x.toArray⟩)) (go_keep) (first | (refine step_append_reads (by rfl) _ _ _ (by rfl) w.heap.size 9 i0 (.string ⟨#[]⟩) 16 Tryz.underlying36 hi hz0 hz1 hz2 rfl (.slice (some ⟨W1.heap.size, 0, none⟩) 1 1) 1 [encStr x] (by simp [Act.eval]) HN1.out (.slice (some ⟨g, 0, none⟩) 0 0) ((U.drop U.length).map encStr) (by simp [Act.eval]) HRD.out (one_strings _) (by rw [HDL.out]; unfold maxLen; omega) (by rw [HDL.out]; omega) (by simp; omega) ?_; intro v6 w6 o6 g6 _; (have hb6 := HB6.out w6 g6); (have hc6 : w6.cell? ⟨blk, off + k, none⟩ = some (.string ⟨x.toArray⟩) := (hb6.cell (p := ⟨blk, off + k, none⟩) hb).trans HC0.out)))
              have HB7 := Lib.hid hb6
              have hw6 := hb6.size
              have HO7 := Lib.hid (HO6.out w6 g6)
              have O6 := Lib.hid o6
              clear hb6 hc6 o6 g6 HB6 HO6 HN1 HRD HB2 HO2 hcell2 HOWN HB
              have HRT := Lib.hid (reads_take HO7.out U.length (Nat.le_refl _) hul)
              have htl : ((U.take U.length).map encStr).length = U.length := by rw [List.length_map, List.length_take, Nat.min_self]
              have HTL := Lib.hid htl
              clear htl
              go_wp2_with (at_builtin; refine wpList_append_reads _ rfl _ _ 36 rfl w.heap.size 9 i0 (.string ⟨#[]⟩) 16 Tryz.underlying36 hi hz0 hz1 hz2 rfl _ _ _ rfl (World.ownsRow_nil _ _ _ _) _ ((U.take U.length).map encStr) rfl HRT.out (one_strings _) (by rw [HTL.out]; unfold maxLen; omega) (by rw [HTL.out]; omega) hw6 ?_)
              intro v7 w7 o7 g7 _
              have g7' : w6.grownBy w7 none := g7
              have HB8 := Lib.hid (HB7.out.grown g7' hw6 (fun j hj => by cases hj))
              have hw7 := g7'.size
              have O67 := O6.out.kept g7' (Or.inr (by obtain ⟨g6, c6, he, _, _⟩ := O6.out.form (by omega); rw [he]; simp [Value.ownBlock]))
              have HR6 : Hid (Reads w7 v6 (([encStr x] ++ (U.drop U.length).map encStr))) := Reads.of_own (by
                have e : ([encStr x] ++ (U.drop U.length).map encStr).length = 1 + ((U.drop U.length).map encStr).length := by simp
                rw [e]; exact O67) (by simp)
              have O7 := Lib.hid o7
              have hxl : ([encStr x] ++ (U.drop U.length).map encStr).length = 1 + (0) := by rw [List.length_append, HDL.out]; rfl
              have HXL := Lib.hid hxl
              clear o7 g7 g7' O67 hxl HRT O6 HO7 HB7
              go_wp2_with (at_builtin; refine wpList_append_reads _ rfl _ _ 36 rfl w.heap.size 9 i0 (.string ⟨#[]⟩) 16 Tryz.underlying36 hi hz0 hz1 hz2 rfl _ _ _ rfl O7.out _ ([encStr x] ++ (U.drop U.length).map encStr) rfl HR6.out ?r1 ?r2 ?r3 (by omega) ?_)
              case r1 => intro u hu; rcases List.mem_append.1 hu with h | h; (rw [List.mem_singleton] at h; subst h; rfl); exact one_strings _ u h
              case r2 => rw [HXL.out]; unfold maxLen; omega
              case r3 => rw [HXL.out]; omega
              intro v8 w8 o8 g8 _
              have HB9 : Hid (Below w.heap.size w w8) := HB8.out.grown g8 (by omega) (fun j hj => (O7.out.lt j hj).1)
              have HO9 : Hid (w8.ownsRow w.heap.size 9 1 v8 (isortB (l.take (k + 1))).length ((isortB (l.take (k + 1))).map encStr)) := by
                rw [HUN.out, insB_len, HSP.out, List.map_append, List.map_cons]
                have e : U.length + (0 + 1) = U.length + 1 := by omega
                rw [e] at o8
                rw [List.take_length, List.drop_length]
                exact o8
              clear o8 g8 O7 HB8 HR6
              go_wp2_with fail
              go_roundg (GK - 1)
              case measure => have := HR.out; have := HGK.out; omega
              case rel => exact ⟨k + 1, by omega, by have := HR.out; have := HGK.out; omega, by go_num, HO9.out, HB9.out, fun h => by omega⟩
            · skip
              have b1 : (U.length : Int) ≤ (c3 : Int) := by have := row_cap1 HOWN.out; omega
              have b2 : (U.length : Int) ≤ (c3 : Int) := by have := row_cap1 HOWN.out; omega
              clear HLT
              go_wp2_with fail
              go_quiet (fail)
              go_wp2_with fail
              have hcell2 : (wr.drewN nq).cell? ⟨blk, off + k, none⟩ = some (.string ⟨x.toArray⟩) := hcell
              have HB2 : Hid (Below w.heap.size w (wr.drewN nq)) := below_drewN HB.out _
              have HO2 : Hid ((wr.drewN nq).ownsRow w.heap.size 9 1 (.slice (some ⟨g, 0, none⟩) U.length c3) U.length (U.map encStr)) := HOWN.out
              clear hcell
              generalize wr.drewN nq = W1 at *
              have hgW : g < W1.heap.size := row_lt1 HO2.out
              have hwW := HB2.out.size
              have HN1 : Hid ((W1.drew.alloc (.cells #[.string ⟨x.toArray⟩] 9)).ownsRow w.heap.size 9 1 (.slice (some ⟨W1.heap.size, 0, none⟩) 1 1) 1 [encStr x]) := owns_of_block hwW (Blk.new W1.drew 9 #[.string ⟨x.toArray⟩]) rfl (Nat.le_refl _) (by decide) rfl
              have HRD : Hid (Reads (W1.drew.alloc (.cells #[.string ⟨x.toArray⟩] 9)) (.slice (some ⟨g, U.length, none⟩) 0 (c3 - U.length)) ((U.drop U.length).map encStr)) := by rw [List.drop_length]; exact Reads.nil _ _ _
              have HB6 : Hid (∀ w6, (W1.drew.alloc (.cells #[.string ⟨x.toArray⟩] 9)).grownBy w6 (some W1.heap.size) → Below w.heap.size w w6) := fun w6 hg => (HB2.out.drew.alloc hwW _).grown hg (by simp; omega) (fun j hj => by cases hj; exact hwW)
              have HO6 : Hid (∀ w6, (W1.drew.alloc (.cells #[.string ⟨x.toArray⟩] 9)).grownBy w6 (some W1.heap.size) → w6.ownsRow w.heap.size 9 1 (.slice (some ⟨g, 0, none⟩) U.length c3) U.length (U.map encStr)) := fun w6 hg => (ownsRow_below HO2.out (((Below.refl W1.heap.size W1).drew).alloc (Nat.le_refl _) _)).kept hg (Or.inr (fun e => by simp [Value.ownBlock] at e; omega))
              have hdl : ((U.drop U.length).map encStr).length = 0 := by rw [List.length_map, List.length_drop]; omega
              have HDL := Lib.hid hdl
              clear hdl
              go_region_held3 (fun w' => w'.cell? ⟨blk, off + k, none⟩ = some (.string ⟨x.toArray⟩)) (go_keep) (first | (refine step_append_reads (by rfl) _ _ _ (by rfl) w.heap.size 9 i0 (.string ⟨#[]⟩) 16 Tryz.underlying36 hi hz0 hz1 hz2 rfl (.slice (some ⟨W1.heap.size, 0, none⟩) 1 1) 1 [encStr x] (by simp [Act.eval]) HN1.out (.slice (some ⟨g, U.length, none⟩) 0 (c3 - U.length)) ((U.drop U.length).map encStr) (by simp [Act.eval]) HRD.out (one_strings _) (by rw [HDL.out]; unfold maxLen; omega) (by rw [HDL.out]; omega) (by simp; omega) ?_; intro v6 w6 o6 g6 _; (have hb6 := HB6.out w6 g6); (have hc6 : w6.cell? ⟨blk, off + k, none⟩ = some (.string ⟨x.toArray⟩) := (hb6.cell (p := ⟨blk, off + k, none⟩) hb).trans HC0.out)))
              have HB7 := Lib.hid hb6
              have hw6 := hb6.size
              have HO7 := Lib.hid (HO6.out w6 g6)
              have O6 := Lib.hid o6
              clear hb6 hc6 o6 g6 HB6 HO6 HN1 HRD HB2 HO2 hcell2 HOWN HB
              have HRT := Lib.hid (reads_take HO7.out U.length (Nat.le_refl _) hul)
              have htl : ((U.take U.length).map encStr).length = U.length := by rw [List.length_map, List.length_take, Nat.min_self]
              have HTL := Lib.hid htl
              clear htl
              go_wp2_with (at_builtin; refine wpList_append_reads _ rfl _ _ 36 rfl w.heap.size 9 i0 (.string ⟨#[]⟩) 16 Tryz.underlying36 hi hz0 hz1 hz2 rfl _ _ _ rfl (World.ownsRow_nil _ _ _ _) _ ((U.take U.length).map encStr) rfl HRT.out (one_strings _) (by rw [HTL.out]; unfold maxLen; omega) (by rw [HTL.out]; omega) hw6 ?_)
              intro v7 w7 o7 g7 _
              have g7' : w6.grownBy w7 none := g7
              have HB8 := Lib.hid (HB7.out.grown g7' hw6 (fun j hj => by cases hj))
              have hw7 := g7'.size
              have O67 := O6.out.kept g7' (Or.inr (by obtain ⟨g6, c6, he, _, _⟩ := O6.out.form (by omega); rw [he]; simp [Value.ownBlock]))
              have HR6 : Hid (Reads w7 v6 (([encStr x] ++ (U.drop U.length).map encStr))) := Reads.of_own (by
                have e : ([encStr x] ++ (U.drop U.length).map encStr).length = 1 + ((U.drop U.length).map encStr).length := by simp
                rw [e]; exact O67) (by simp)
              have O7 := Lib.hid o7
              have hxl : ([encStr x] ++ (U.drop U.length).map encStr).length = 1 + (0) := by rw [List.length_append, HDL.out]; rfl
              have HXL := Lib.hid hxl
              clear o7 g7 g7' O67 hxl HRT O6 HO7 HB7
              go_wp2_with (at_builtin; refine wpList_append_reads _ rfl _ _ 36 rfl w.heap.size 9 i0 (.string ⟨#[]⟩) 16 Tryz.underlying36 hi hz0 hz1 hz2 rfl _ _ _ rfl O7.out _ ([encStr x] ++ (U.drop U.length).map encStr) rfl HR6.out ?r1 ?r2 ?r3 (by omega) ?_)
              case r1 => intro u hu; rcases List.mem_append.1 hu with h | h; (rw [List.mem_singleton] at h; subst h; rfl); exact one_strings _ u h
              case r2 => rw [HXL.out]; unfold maxLen; omega
              case r3 => rw [HXL.out]; omega
              intro v8 w8 o8 g8 _
              have HB9 : Hid (Below w.heap.size w w8) := HB8.out.grown g8 (by omega) (fun j hj => (O7.out.lt j hj).1)
              have HO9 : Hid (w8.ownsRow w.heap.size 9 1 v8 (isortB (l.take (k + 1))).length ((isortB (l.take (k + 1))).map encStr)) := by
                rw [HUN.out, insB_len, HSP.out, List.map_append, List.map_cons]
                have e : U.length + (0 + 1) = U.length + 1 := by omega
                rw [e] at o8
                rw [List.take_length, List.drop_length]
                exact o8
              clear o8 g8 O7 HB8 HR6
              go_wp2_with fail
              go_roundg (GK - 1)
              case measure => have := HR.out; have := HGK.out; omega
              case rel => exact ⟨k + 1, by omega, by have := HR.out; have := HGK.out; omega, by go_num, HO9.out, HB9.out, fun h => by omega⟩
    · obtain rfl : k = l.length := by omega
      have HE : Hid (∀ v, wr.ownsRow w.heap.size 9 1 v (isortB l).length ((isortB l).map encStr) → SortP w l (.returned v) wr) := fun v h => ⟨v, rfl, h, HB.out⟩
      rw [List.take_length] at HOWN
      go_wp2_with fail
      go_ret
      exact HE.out _ HOWN.out
end Go.Proofs.YtfpkeinknhijaaaGreat
