/- SweepNil, for all arguments. -/
import Derived.Test.YtfpkeinknhijaaaSwpI
namespace Go.Proofs.Ytfpkeinknhijaaa
set_option linter.unusedVariables false
open Go.RowKit Go.Maps Go.Sort

theorem Kr.base {V V1 w : World} {x : Nat} {most seed R : Int} {nn : Nat} {d : Dx} (k : Kr V1 w (fun _ => False) x most seed R nn d) (hb : Below V.heap.size V V1) : Kr V w (fun g => V.heap.size ≤ g ∧ g < V1.heap.size) x most seed R nn d := by
  obtain ⟨O, Rd, h1, h2, h3, h4⟩ := k
  exact ⟨O, Rd, h1, fun g hg => ⟨by have := (h2 g hg).1; have := hb.size; omega, fun h => by have := (h2 g hg).1; omega⟩, fun g hg => by have := h4.size; omega, hb.trans (h4.mono hb.size)⟩
set_option maxHeartbeats 8000000 in
set_option maxRecDepth 100000 in
theorem snil_walk (n : Int) (w : World) :
    Calls Try.prog 7 #[.int .i64 n] w fun e w' => e = .returned (.bool true) ∧ Below w.heap.size w w' := by
  go_enter Try.func7, Try.ntmps7
  go_wp2_with fail
  refine (example_any w w (Below.refl _ _)).mono ?_
  rintro e w1 ⟨x, rfl, k1⟩
  have KS := Lib.hid k1
  clear k1
  go_wp2_with (first
    | (go_at_call 39; refine (lsteps_of (swstep_nil KS.out (by decide) n)).mono ?_; rintro e w2 ⟨rfl, b2⟩)
    | (go_at_call 43; refine (lat_nil _).mono ?_; rintro e w3 ⟨rfl, rfl⟩)
    | (go_at_call 48; refine (swcopy_nil _).mono ?_; rintro e w4 ⟨rfl, rfl⟩))
  have B0 := Lib.hid (KS.out.bel.trans (b2.mono KS.out.bel.size))
  clear b2 KS
  have hz := Blk.alloc (Blk.new w2 53 #[.pointer none, .int .u64 0, .map none, .map none, .int .i64 0, .int .i64 0]) (.cells #[.pointer none, .pointer (some ⟨w2.heap.size, 0, none⟩)] 25)
  have zb := Blk.new (w2.alloc (.cells #[.pointer none, .int .u64 0, .map none, .map none, .int .i64 0, .int .i64 0] 53)) 25 #[.pointer none, .pointer (some ⟨w2.heap.size, 0, none⟩)]
  rw [show (w2.alloc (.cells #[.pointer none, .int .u64 0, .map none, .map none, .int .i64 0, .int .i64 0] 53)).heap.size = w2.heap.size + 1 by simp] at zb
  have HZ := Lib.hid hz
  have HZB := Lib.hid zb
  have HB : Hid (Below w.heap.size w ((w2.alloc (.cells #[.pointer none, .int .u64 0, .map none, .map none, .int .i64 0, .int .i64 0] 53)).alloc (.cells #[.pointer none, .pointer (some ⟨w2.heap.size, 0, none⟩)] 25))) := (B0.out.alloc B0.out.size _).alloc (by have := B0.out.size; simp; omega) _
  clear hz zb B0
  generalize ((w2.alloc (.cells #[.pointer none, .int .u64 0, .map none, .map none, .int .i64 0, .int .i64 0] 53)).alloc (.cells #[.pointer none, .pointer (some ⟨w2.heap.size, 0, none⟩)] 25)) = W at *
  have H0 := Lib.hid (nx_nil W)
  have H1 := Lib.hid (nx_zero HZ.out.lt (HZ.out.cell 0))
  go_loopg [25] 2 (fun r i wr => ∃ j : Nat, j ≤ 2 ∧ r + j = 2 ∧ i = .int .i64 j ∧ Below W.heap.size W wr)
  case atStart => exact ⟨0, by omega, by omega, rfl, Below.refl _ _⟩
  case round =>
    obtain ⟨j, hj, hr, rfl, hbr⟩ := hrel
    have HBR := Lib.hid hbr
    have zb := HZB.out.below hbr HZB.out.lt
    have c0 := zb.cell 0
    have c1 := zb.cell 1
    simp only [List.getElem?_toArray, List.getElem?_cons_zero, List.getElem?_cons_succ] at c0 c1
    clear zb
    have hba : Hid (Below W.heap.size W (wr.alloc (.cells (swCs 0 0 0) 102))) := hbr.alloc hbr.size _
    have hx : j = 2 ∨ ∃ q, NX W q ∧ j < 2 ∧ wr.cell? ⟨w2.heap.size + 1, j, none⟩ = some (.pointer q) := by
      rcases (by omega : j = 0 ∨ j = 1 ∨ j = 2) with rfl | rfl | rfl
      · exact .inr ⟨_, H0.out, by omega, c0⟩
      · exact .inr ⟨_, H1.out, by omega, c1⟩
      · exact .inl rfl
    clear c0 c1 hbr
    rcases hx with rfl | ⟨q, hq, hj2, hc⟩
    · clear hj hr H0 H1 HZ HZB hba
      have hb0 : Below w.heap.size w wr := HB.out.trans (HBR.out.mono HB.out.size)
      have BW := Lib.hid hb0
      clear hb0
      have hal : Hid (Below wr.heap.size wr (wr.alloc (.cells (swCs 0 0 0) 102))) := (Below.refl _ _).alloc (Nat.le_refl _) _
      have HS0 : Hid (Swp (wr.alloc (.cells (swCs 0 0 0) 102)) wr.heap.size 0 0 0) := Blk.new _ _ _
      go_wp2_with fail
      refine (example_any (wr.alloc (.cells (swCs 0 0 0) 102)) _ (Below.refl _ _)).mono ?_
      rintro e w3 ⟨x2, rfl, k3⟩
      have SK : Hid (Sk wr w3 (fun _ => False) x2 9 1 64 66 exD wr.heap.size 0 0 0) := ⟨(k3.base hal.out).less (fun g hg => by
        rcases hg with h | h
        · exact h.elim
        · rw [h]; exact ⟨Nat.le_refl _, by simp⟩), HS0.out.below k3.bel HS0.out.lt, Nat.le_refl _, fun h => h⟩
      clear k3 hal HS0
      go_wp2_with (first
        | (go_at_call 39; refine (SK.out.steps2 3 (by decide) (by decide) (by decide) (by decide) (r := sk1) rfl rfl sk1_is rfl rfl (rd' := 0) rfl (nn' := 69) rfl).mono ?_; rintro e w4 ⟨rfl, s4, _⟩; have b4 := s4.bel)
        | (go_at_call 43; refine (lat_any (Blk.new w4 102 (swCs 0 0 0))).mono ?_; rintro e w5 ⟨rfl, b5⟩)
        | (go_at_call 33; refine (sknown_any _).mono ?_; rintro e w6 ⟨rfl, b6⟩))
      go_ret
      have h4 : Below wr.heap.size wr (w4.alloc (.cells (swCs 0 0 0) 102)) := b4.alloc b4.size _
      have h5 := h4.trans (b5.mono h4.size)
      have h6 := h5.trans (b6.mono h5.size)
      exact ⟨rfl, BW.out.trans (h6.mono BW.out.size)⟩
    · have HQ := Lib.hid hq
      clear hq
      go_wp2_with (first
        | (go_at_call 34; refine (swnew_any _).mono ?_; rintro e w3 ⟨rfl, rfl⟩)
        | (go_at_call 39; refine (lsteps_of (swstep_nx HQ.out hba.out (.pointer (some ⟨wr.heap.size, 0, none⟩)) (.inr ⟨_, rfl⟩) n)).mono ?_; rintro e w4 ⟨rfl, b4⟩)
        | (go_at_call 42; refine (lall_of (swall_nx HQ.out b4)).mono ?_; rintro e w5 ⟨rfl, b5⟩))
      go_roundg (2 - (j + 1))
      case measure => omega
      case rel => exact ⟨j + 1, by omega, by omega, by go_num, b5⟩
end Go.Proofs.Ytfpkeinknhijaaa
