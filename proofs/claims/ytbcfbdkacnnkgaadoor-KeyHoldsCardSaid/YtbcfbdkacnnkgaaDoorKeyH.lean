/- The chapter's examples (known) of key answer true. -/
import Derived.Test.YtbcfbdkacnnkgaaDoorKeyG
namespace Go.Proofs.YtbcfbdkacnnkgaaDoor
set_option linter.unusedVariables false
open Go.RowKit

def longT : Bs := List.replicate 251 0
theorem longT_cells : Go.madeCells #[.int .u8 0] 251 = (Lib.byteCells longT).toArray := by kernel_rfl
theorem longT_len : longT.length = 251 := by decide +kernel
theorem conv_long (W : World) : Sem.run Tryd.prog (convert 48 9 (.slice (some ⟨W.heap.size, 0, none⟩) 251 251)) (W.alloc (.cells (Go.madeCells #[.int .u8 0] 251) 5)) = .ok (.string ⟨longT.toArray⟩) (W.alloc (.cells (Go.madeCells #[.int .u8 0] 251) 5)) := by
  have h := ownsRow_whole (w := W) (e := 5) (xs := Lib.byteCells longT) longT_cells (by rw [Lib.byteCells_length, longT_len]; unfold maxLen; omega)
  rw [Lib.byteCells_length] at h
  have h2 := conv_row _ longT _ _ h
  rw [longT_len] at h2
  exact h2
theorem make_long (W : World) : Sem.run Tryd.prog (Instr.makeSlice 48 (.int .i64 251) (.int .i64 251)) W = .ok (.slice (some ⟨W.heap.size, 0, none⟩) 251 251) (W.alloc (.cells (Go.madeCells #[.int .u8 0] 251) 5)) :=
  run_make_row' 48 5 (.int .u8 0) 1 Tryd.underlying48 infoByte' rfl .i64 .i64 251 (by decide) (by decide) W

theorem long_facts : ∃ L : ByteArray, (∀ W : World, Sem.run Tryd.prog (convert 48 9 (.slice (some ⟨W.heap.size, 0, none⟩) 251 251)) (W.alloc (.cells (Go.madeCells #[.int .u8 0] 251) 5)) = .ok (.string L) (W.alloc (.cells (Go.madeCells #[.int .u8 0] 251) 5))) ∧
    251 ≤ L.size ∧ L.size ≤ 251 ∧ Hid (∀ w, Calls Tryd.prog 11 #[.string (L.extract 0 250)] w fun e w' => e = .returned (.bool true) ∧ w = w') ∧
    Hid (∀ w, Calls Tryd.prog 11 #[.string L] w fun e w' => e = .returned (.bool false) ∧ w = w') ∧
    Hid (∀ w, Calls Tryd.prog 13 #[.string (L.extract 0 65)] w fun e w' => e = .returned (.bool false) ∧ w = w') := by
  have h1 : kValid ((⟨longT.toArray⟩ : ByteArray).extract 0 250).size = true := by decide +kernel
  have h2 : kValid (⟨longT.toArray⟩ : ByteArray).size = false := by decide +kernel
  have h3 : kValidTag ((⟨longT.toArray⟩ : ByteArray).extract 0 65).size = false := by decide +kernel
  have c1 := fun w => keyValid_any ((⟨longT.toArray⟩ : ByteArray).extract 0 250) w
  have c2 := fun w => keyValid_any (⟨longT.toArray⟩ : ByteArray) w
  have c3 := fun w => keyValidTag_any ((⟨longT.toArray⟩ : ByteArray).extract 0 65) w
  rw [h1] at c1
  rw [h2] at c2
  rw [h3] at c3
  exact ⟨⟨longT.toArray⟩, conv_long, by decide +kernel, by decide +kernel, c1, c2, c3⟩

set_option maxHeartbeats 4000000 in
set_option maxRecDepth 100000 in
theorem known_any (w : World) (hL : LaidK w) :
    Calls Tryd.prog 10 #[] w fun e w' => e = .returned (.bool true) ∧ Below w.heap.size w w' := by
  have hmk := make_long
  obtain ⟨L, hcv, z1, z2, c1, c2, c3⟩ := long_facts
  have hS := St.start hL
  go_enter Tryd.func10, Tryd.ntmps10
  go_wp2_with (first
    | (go_at_call 11; (with_reducible refine (kn_valid0 _).mono ?_); rintro e w' ⟨rfl, rfl⟩)
    | (go_at_call 11; (with_reducible refine (c1.out _).mono ?_); rintro e w' ⟨rfl, rfl⟩)
    | (go_at_call 11; (with_reducible refine (c2.out _).mono ?_); rintro e w' ⟨rfl, rfl⟩)
    | (go_at_call 13; (with_reducible refine (c3.out _).mono ?_); rintro e w' ⟨rfl, rfl⟩)
    | (go_at_call 15; (with_reducible refine (kn_prefix0 _).mono ?_); rintro e w' ⟨rfl, rfl⟩)
    | (go_at_call 17; (with_reducible refine (kn_has1 _).mono ?_); rintro e w' ⟨rfl, rfl⟩)
    | (go_at_call 17; (with_reducible refine (kn_has2 _).mono ?_); rintro e w' ⟨rfl, rfl⟩))
  clear hmk hcv c1 c2 c3
  refine (kn_common1 _).mono ?_
  rintro e w1 ⟨rfl, hb⟩
  have h1 := hS.step (below_new (w0 := w) hb)
  clear hb
  go_wp2_with fail
  refine (kn_common2 _).mono ?_
  rintro e w2 ⟨rfl, hb⟩
  have h2 := h1.step hb
  clear hb h1
  go_wp2_with fail
  refine (kn_seg1 _ h2.laid.laid).mono ?_
  rintro e w3 ⟨va, rfl, hr, hb⟩
  have h3 := (h2.step hb).push hr
  clear hb hr h2
  go_wp2_with fail
  refine (kn_fold1 _).mono ?_
  rintro e w4 ⟨vb, rfl, hr, hb⟩
  have h4 := (h3.step hb).push hr
  clear hb hr h3
  go_wp2_with fail
  refine (kn_seg2 _ h4.laid.laid).mono ?_
  rintro e w5 ⟨vc, rfl, hr, hb⟩
  have h5 := (h4.step hb).push hr
  clear hb hr h4
  go_wp2_with fail
  refine (kn_fold2 _).mono ?_
  rintro e w6 ⟨vd, rfl, hr, hb⟩
  have h6 := (h5.step hb).push hr
  clear hb hr h5
  go_wp2_with fail
  refine (kn_list1 _ va (h6.reads _ (.tail _ (.tail _ (.tail _ (.head _)))))).mono ?_
  rintro e w7 ⟨rfl, hb⟩
  have h7 := h6.step hb
  clear hb h6
  go_wp2_with fail
  refine (kn_list2 _ vb (h7.reads _ (.tail _ (.tail _ (.head _))))).mono ?_
  rintro e w8 ⟨rfl, hb⟩
  have h8 := h7.step hb
  clear hb h7
  go_wp2_with fail
  refine (kn_list3 _ vc (h8.reads _ (.tail _ (.head _)))).mono ?_
  rintro e w9 ⟨rfl, hb⟩
  have h9 := h8.step hb
  clear hb h8
  go_wp2_with fail
  refine (kn_list4 _ vd 0 (h9.reads _ (.head _))).mono ?_
  rintro e w10 ⟨rfl, hb⟩
  have h10 := h9.step hb
  clear hb h9
  go_wp2_with fail
  refine (kn_join1 _).mono ?_
  rintro e w11 ⟨rfl, hb⟩
  have h11 := h10.step hb
  clear hb h10
  go_wp2_with fail
  refine (kn_join2 _).mono ?_
  rintro e w12 ⟨rfl, hb⟩
  have h12 := h11.step hb
  clear hb h11
  go_wp2_with fail
  refine (kn_join3 _).mono ?_
  rintro e w13 ⟨rfl, hb⟩
  have h13 := h12.step hb
  clear hb h12
  go_wp2_with fail
  refine (kn_join4 _).mono ?_
  rintro e w14 ⟨rfl, hb⟩
  have h14 := h13.step hb
  clear hb h13
  go_wp2_with fail
  refine (kn_one _ _ _).mono ?_
  rintro e w' ⟨rfl, rfl⟩
  go_wp2_with fail
  refine (kn_one _ _ _).mono ?_
  rintro e w' ⟨rfl, rfl⟩
  go_wp2_with fail
  refine (kn_one _ _ _).mono ?_
  rintro e w' ⟨rfl, rfl⟩
  go_wp2_with fail
  refine (kn_one _ _ _).mono ?_
  rintro e w' ⟨rfl, rfl⟩
  go_wp2_with fail
  refine (kn_tags1 _).mono ?_
  rintro e w15 ⟨ve, rfl, hr, hb⟩
  have h15 := (h14.step hb).push hr
  clear hb hr h14
  go_wp2_with fail
  refine (kn_tags2 _).mono ?_
  rintro e w16 ⟨vf, rfl, hr, hb⟩
  have h16 := (h15.step hb).push hr
  clear hb hr h15
  go_wp2_with fail
  refine (kn_list5 _ ve (h16.reads _ (.tail _ (.head _)))).mono ?_
  rintro e w17 ⟨rfl, hb⟩
  have h17 := h16.step hb
  clear hb h16
  go_wp2_with fail
  refine (kn_list4 _ vf 2 (h17.reads _ (.head _))).mono ?_
  rintro e w18 ⟨rfl, hb⟩
  have h18 := h17.step hb
  clear hb h17
  go_wp2_with fail
  refine (kn_text1 _ h18.laid.digs).mono ?_
  rintro e w19 ⟨rfl, hb⟩
  have h19 := h18.step hb
  clear hb h18
  go_wp2_with fail
  refine (kn_text2 _ h19.laid.digs).mono ?_
  rintro e w20 ⟨rfl, hb⟩
  have h20 := h19.step hb
  clear hb h19
  go_wp2_with fail
  refine (kn_text3 _ h20.laid.digs).mono ?_
  rintro e w21 ⟨rfl, hb⟩
  have h21 := h20.step hb
  clear hb h20
  go_wp2_with fail
  refine (kn_one _ _ _).mono ?_
  rintro e w' ⟨rfl, rfl⟩
  go_wp2_with fail
  refine (kn_one _ _ _).mono ?_
  rintro e w' ⟨rfl, rfl⟩
  go_wp2_with fail
  refine (kn_one _ _ _).mono ?_
  rintro e w' ⟨rfl, rfl⟩
  go_wp2_with fail
  refine (kn_parses1 _ h21.laid.digs).mono ?_
  rintro e w22 ⟨rfl, hb⟩
  have h22 := h21.step hb
  clear hb h21
  go_wp2_with fail
  refine (kn_parses2 _ h22.laid.digs).mono ?_
  rintro e w23 ⟨rfl, hb⟩
  have h23 := h22.step hb
  clear hb h22
  go_wp2_with fail
  refine (kn_parses3 _ h23.laid.digs).mono ?_
  rintro e w24 ⟨rfl, hb⟩
  have h24 := h23.step hb
  clear hb h23
  go_wp2_with fail
  go_ret
  exact ⟨rfl, h24.bel⟩
end Go.Proofs.YtbcfbdkacnnkgaaDoor
