/- The law's is, layer 19: an index against the document's. -/
import Derived.Test.YtfpkeinknhijaaaDixF
import Derived.Test.YtfpkeinknhijaaaSwpI
import Derived.Deep.AppendLies
namespace Go.Proofs.Ytfpkeinknhijaaa
set_option linter.unusedVariables false
open Go.RowKit Go.Maps Go.Sort

set_option maxHeartbeats 8000000 in
set_option maxRecDepth 100000 in
theorem swis_any {V w : World} {S P : Nat → Prop} {x : Nat} {most seed R : Int} {nn : Nat} {d : Dx} {a : Dp} (k : Kr V w S x most seed R nn d) (hn : nn ≤ 100000) (h : Dix w P d a) (mo : Int) :
    Calls Try.prog 40 #[.pointer (some ⟨x, 0, none⟩), dixV mo d a] w fun e w' => e = .returned (.bool true) ∧ Below w.heap.size w w' := by
  have HBW : Hid (Below w.heap.size w (w.alloc (.cells (dixCs mo d a) 73))) := (Below.refl _ _).alloc (Nat.le_refl _) _
  have HBX : Hid (Blk (w.alloc (.cells (dixCs mo d a) 73)) w.heap.size 73 (dixCs mo d a)) := Blk.new _ _ _
  have H := Lib.hid (h.below HBW.out)
  have K := Lib.hid (k.quiet HBW.out)
  have hsl := k.facts.2.1
  have hal := k.facts.2.2.1
  have HLT : Hid (∀ s ∈ d.sl, s.1 < 65536) := fun s hs => by have := k.facts.1.nlt s hs; have := k.facts.2.2.2.2.1; omega
  obtain ⟨N, hN⟩ : ∃ N, d.sl.length = N := ⟨_, rfl⟩
  have HN := Lib.hid hN
  rw [hN] at hsl
  have HAL := Lib.hid hal
  obtain ⟨wt, hwt⟩ : ∃ wt, wrongX d.all d.sl = wt := ⟨_, rfl⟩
  have HWT := Lib.hid hwt
  clear h k hN hal hwt
  go_enter Try.func40, Try.ntmps40
  go_wp2_with fail
  generalize w.alloc (.cells (dixCs mo d a) 73) = W at *
  obtain ⟨tb, lb, sb, own, Rd, lm, sm, l0, hry⟩ := K.out.ry
  have hS := rvsizes_any hry
  rw [HN.out, HWT.out] at hS
  refine hS.mono ?_
  rintro e w1 ⟨rfl, b1⟩
  have B1 := Lib.hid b1
  have hbx := Blk.below HBX.out b1 (Blk.lt HBX.out)
  have d0 := Blk.cell hbx 0
  have d1 := Blk.cell hbx 1
  have d2 := Blk.cell hbx 2
  have d3 := Blk.cell hbx 3
  simp only [List.getElem?_toArray, List.getElem?_cons_zero, List.getElem?_cons_succ] at d0 d1 d2 d3
  have hW := xwrong_any (H.out.below b1) mo (by rw [HN.out]; omega) (by have := HAL.out; omega)
  unfold dixV dixCs at hW
  rw [HWT.out, HN.out] at hW
  rw [HN.out] at d3
  have HW := Lib.hid hW
  clear hS hry b1 hbx hW
  go_wp2_with (go_at_call 78; refine HW.out.mono ?_; rintro e w2 ⟨rfl, b2⟩)
  have B2 := Lib.hid (B1.out.trans (b2.mono B1.out.size))
  clear b2 B1 HW d0 d1 d2 d3
  go_loopg [7] N (fun r s7 wr => ∃ j : Nat, r + j = N ∧ s7 = .int .i64 (j : Int) ∧ Below W.heap.size W wr)
  case atStart => exact ⟨0, by omega, rfl, B2.out⟩
  case round =>
    clear B2
    obtain ⟨j, hr, rfl, hb⟩ := hrel
    have HR := Lib.hid hr
    have BR := Lib.hid hb
    have hjN : j ≤ N := by omega
    have hbx := Blk.below HBX.out hb (Blk.lt HBX.out)
    have d0 := Blk.cell hbx 0
    have d1 := Blk.cell hbx 1
    have d2 := Blk.cell hbx 2
    have d3 := Blk.cell hbx 3
    simp only [List.getElem?_toArray, List.getElem?_cons_zero, List.getElem?_cons_succ] at d0 d1 d2 d3
    clear hr hb hbx
    by_cases hlt : j < N
    · obtain ⟨y, hy⟩ : ∃ y, d.sl[j]? = some y := ⟨_, List.getElem?_eq_getElem (by rw [HN.out]; exact hlt)⟩
      have hy5 := HLT.out y (List.mem_of_getElem? hy)
      obtain ⟨g, hp, hg, -, -, hcell⟩ := (H.out.below BR.out).slots.at_ (by rw [HN.out]; omega)
      have n0 := hcell _ _ (sl_get hy).1
      rw [HN.out, hp] at d3
      have HP3 := Lib.hid hp
      obtain ⟨y1, y2⟩ := y
      simp only at n0 hy5
      obtain ⟨tb, lb, sb, own, Rd, lm, sm, l0, hry⟩ := (K.out.quiet BR.out).ry
      have hsl5 : slotsN d.sl (y1 : Int) = ofX d.sl y1 := by unfold slotsN; rw [if_pos (numB_lt hy5), Int.toNat_natCast]
      have hnb : (if numB (y1 : Int) = true then (0 : Int) else 2) = 0 := by rw [if_pos (numB_lt hy5)]
      have hSl := rvslots_any hry hn (y1 : Int)
      rw [hsl5, hnb] at hSl
      have HOF : Hid (∀ w', Below W.heap.size W w' → Calls Try.prog 76 #[.agg #[.int .i64 mo, .slice a.p d.nm.length a.c, .slice a.pA d.all.length a.cA, .slice (some ⟨g, 0, none⟩) N a.cS], .int .i64 (y1 : Int)] w' (NewRow w' 29 (idsV (ofX d.sl y1)))) := fun w' hb => by
        have := xof_any (H.out.below hb) mo (by rw [HN.out]; omega) (y1 : Int)
        unfold dixV dixCs at this
        rw [HN.out, hp, ofI_nat] at this
        exact this
      have hol : (ofX d.sl y1).length ≤ 100000 := by have := ofX_len d.sl y1; rw [HN.out] at this; omega
      obtain ⟨M, hM⟩ : ∃ M, ofX d.sl y1 = M := ⟨_, rfl⟩
      rw [hM] at hSl HOF hol
      obtain ⟨TM, hTM⟩ : ∃ TM, M.length = TM := ⟨_, rfl⟩
      have HTM := Lib.hid hTM
      rw [hTM] at hol
      have HRD : Hid ((idsV M).length ≤ 140737488355328) := by unfold Hid; rw [List.length_map, hTM]; omega
      have HSL := Lib.hid hSl
      have HGS : Hid (g < wr.heap.size) := hg
      have HX : Hid (w.heap.size < wr.heap.size) := Nat.lt_of_lt_of_le HBX.out.lt BR.out.size
      clear hcell hy hg hp hry hsl5 hnb hSl hM hTM
      go_wp2_with fail
      refine HSL.out.mono ?_
      rintro e w3 ⟨v3, rfl, hv3, b3⟩
      have R3 := Lib.hid (Reads.own_ hv3 rfl HRD.out)
      rw [List.length_map, HTM.out] at hv3
      obtain ⟨p3, c3, rfl⟩ := owns_form hv3
      have d0 := (b3.cell (p := ⟨w.heap.size, 0, none⟩) HX.out).trans d0
      have d1 := (b3.cell (p := ⟨w.heap.size, 1, none⟩) HX.out).trans d1
      have d2 := (b3.cell (p := ⟨w.heap.size, 2, none⟩) HX.out).trans d2
      have d3 := (b3.cell (p := ⟨w.heap.size, 3, none⟩) HX.out).trans d3
      have n0 := (b3.cell (p := ⟨g, j * 2, none⟩) HGS.out).trans n0
      have BR3 : Hid (Below W.heap.size W w3) := BR.out.trans (b3.mono BR.out.size)
      clear b3 hv3 HSL
      go_wp2_with fail
      have D0 : w3.drew.cell? ⟨w.heap.size, 0, none⟩ = _ := d0
      have D1 : w3.drew.cell? ⟨w.heap.size, 1, none⟩ = _ := d1
      have D2 : w3.drew.cell? ⟨w.heap.size, 2, none⟩ = _ := d2
      have D3 : w3.drew.cell? ⟨w.heap.size, 3, none⟩ = _ := d3
      have E0 : w3.drew.cell? ⟨g, j * 2, none⟩ = _ := n0
      have R3d := Lib.hid (R3.out.below ((Below.refl _ _).drew : Below w3.heap.size w3 w3.drew))
      go_region_law (first
        | (go_simp; go_at_call 76; refine (HOF.out _ BR3.out.drew).mono ?_; rintro e w4 ⟨v4, rfl, hv4, b4⟩; have R4 := Lib.hid (Reads.own_ hv4 rfl HRD.out); have R34 := Lib.hid (R3d.out.below b4); rw [List.length_map, HTM.out] at hv4; obtain ⟨p4, c4, rfl⟩ := owns_form hv4; have BR4 : Hid (Below W.heap.size W w4) := BR3.out.drew.trans (b4.mono BR3.out.drew.size); clear hv4 b4)
        | (go_simp; go_at_call 53; refine (ids_any _ _ M w4 R34.out R4.out).mono ?_; rintro e w5 ⟨rfl, b5⟩))
      all_goals
        have HB5 : Hid (Below W.heap.size W w5) := BR4.out.trans (b5.mono BR4.out.size)
        clear b5
        go_wp2_with fail
        go_roundg (N - (j + 1))
        case measure => have := HR.out; omega
        case rel => exact ⟨j + 1, by omega, by go_num, HB5.out⟩
    · obtain rfl : j = N := by omega
      rw [HN.out] at d3
      go_wp2_with fail
      go_ret
      exact ⟨rfl, HBW.out.trans (BR.out.mono HBW.out.size)⟩
end Go.Proofs.Ytfpkeinknhijaaa
