/- The document's All, layer 19. -/
import Derived.Test.YtfpkeinknhijaaaDixC
namespace Go.Proofs.Ytfpkeinknhijaaa
set_option linter.unusedVariables false
open Go.RowKit Go.Maps Go.Sort

def AllR (w : World) (P : Nat → Prop) (most : Int) (d : Dx) (e : Ending) (w' : World) : Prop :=
  ∃ a', e = .returned (.tuple #[dixV most (liveSl d) a', .int .i64 (wrongX d.all d.sl : Int)]) ∧ Dix w' (Nw w w' P) (liveSl d) a' ∧ Below w.heap.size w w'
theorem live_count (A : List En) (S : List (Nat × Nat)) : (S.filter fun s => liveE A s.2).length + wrongX A S = S.length := by
  unfold wrongX
  rw [← List.countP_eq_length_filter]
  have := List.length_eq_countP_add_countP (l := S) (p := fun s => liveE A s.2)
  rw [this]
  congr 1
  refine List.countP_congr fun s _ => ?_
  cases liveE A s.2 <;> simp
set_option maxHeartbeats 8000000 in
set_option maxRecDepth 100000 in
theorem xall_any {w : World} {P : Nat → Prop} {d : Dx} {a : Dp} (h : Dix w P d a) (hP : ∀ g, P g → g < w.heap.size) (most : Int) (hl : d.sl.length ≤ 1000000) (hl2 : d.all.length ≤ 1000000) :
    Calls Try.prog 41 #[dixV most d a] w (AllR w P most d) := by
  have HBW : Hid (Below w.heap.size w ((w.alloc (.cells (dixCs most d a) 73)).alloc (.cells zeroX 73))) := ((Below.refl _ _).alloc (Nat.le_refl _) _).alloc (by simp) _
  have hbx := Blk.alloc (Blk.new w 73 (dixCs most d a)) (.cells zeroX 73)
  have hbr := Blk.new (w.alloc (.cells (dixCs most d a) 73)) 73 zeroX
  rw [show (w.alloc (.cells (dixCs most d a) 73)).heap.size = w.heap.size + 1 by simp] at hbr
  have H := Lib.hid (h.below HBW.out)
  have HBR := Lib.hid hbr
  have HBX := Lib.hid hbx
  have HPP := Lib.hid hP
  obtain ⟨N, hN⟩ : ∃ N, d.sl.length = N := ⟨_, rfl⟩
  have HN := Lib.hid hN
  rw [hN] at hl
  have HL2 := Lib.hid hl2
  obtain ⟨i0, hi0, hz0, hz1, hz2⟩ := info_parts slotInfo
  have hwt := wrong_le d.all d.sl
  rw [hN] at hwt
  have hlc := live_count d.all d.sl
  rw [hN] at hlc
  have HLC := Lib.hid hlc
  obtain ⟨wt, hwt2⟩ : ∃ wt, wrongX d.all d.sl = wt := ⟨_, rfl⟩
  have HWT := Lib.hid hwt2
  rw [hwt2] at hwt
  clear h hbx hbr hP hl2 hN hlc hwt2
  go_enter Try.func41, Try.ntmps41
  go_wp2_with fail
  generalize (w.alloc (.cells (dixCs most d a) 73)).alloc (.cells zeroX 73) = W at *
  go_loopg [4, 5] N (fun r s4 s5 wr => ∃ (k nf : Nat) (q : Option Addr) (c : Nat), r + k = N ∧ s5 = .int .i64 (k : Int) ∧ s4 = .slice q nf c ∧ nf = ((d.sl.take k).filter fun s => liveE d.all s.2).length ∧ wr.ownsRow W.heap.size 133 2 (.slice q nf c) nf (slCs ((d.sl.take k).filter fun s => liveE d.all s.2)) ∧ Below W.heap.size W wr)
  case atStart => exact ⟨0, 0, none, 0, by omega, rfl, rfl, rfl, World.ownsRow_nil _ _ _ _, Below.refl _ _⟩
  case round =>
    obtain ⟨k, nf, q, c, hr, rfl, rfl, hnf, hrow, hb⟩ := hrel
    have HR := Lib.hid hr
    have BR := Lib.hid hb
    have ROW := Lib.hid hrow
    have HNF := Lib.hid hnf
    have hkN : k ≤ N := by omega
    have hbx := Blk.below HBX.out hb (Blk.lt HBX.out)
    have d0 := Blk.cell hbx 0
    have d1 := Blk.cell hbx 1
    have d2 := Blk.cell hbx 2
    have d3 := Blk.cell hbx 3
    simp only [List.getElem?_toArray, List.getElem?_cons_zero, List.getElem?_cons_succ] at d0 d1 d2 d3
    have hnl : nf ≤ k := by
      rw [hnf]
      refine Nat.le_trans (List.length_filter_le _ _) ?_
      rw [List.length_take]
      omega
    clear hr hb hbx hrow hnf
    by_cases hlt : k < N
    · obtain ⟨x, hx⟩ : ∃ x, d.sl[k]? = some x := ⟨_, List.getElem?_eq_getElem (by rw [HN.out]; exact hlt)⟩
      obtain ⟨g, hp, hg, -, -, hcell⟩ := (H.out.below BR.out).slots.at_ (by rw [HN.out]; omega)
      obtain ⟨g0, g1⟩ := sl_get hx
      have n0 := hcell _ _ g0
      have n1 := hcell _ _ g1
      have HGS := Lib.hid hg
      have HTK : Hid ((d.sl.take (k + 1)).filter (fun s => liveE d.all s.2) = (d.sl.take k).filter (fun s => liveE d.all s.2) ++ (if liveE d.all x.2 = true then [x] else [])) := by
        unfold Hid
        rw [List.take_add_one, hx, List.filter_append]
        congr 1
        simp only [Option.toList_some, List.filter_cons, List.filter_nil]
      have hF := xfind_any (H.out.below BR.out.drew) most HL2.out x.2
      unfold dixV dixCs at hF
      rw [HN.out, hp] at hF
      have HF := Lib.hid hF
      rw [HN.out, hp] at d3
      have HP3 := Lib.hid hp
      have hfl := findE_live d.all x.2
      obtain ⟨x1, x2⟩ := x
      simp only at n0 n1 HTK hfl HF
      generalize findE d.all x2 = fi at *
      clear hcell g0 g1 hx hg hp hF
      go_wp2_with fail
      go_still_tail 7, (by kernel_rfl)
      change wpList _ _ _ _ _ wr.drew
      rcases hfl with ⟨hl1, hf1⟩ | ⟨hl1, hf1⟩
      · rw [if_pos hl1] at HTK
        have hf2 : fi ≥ 0 := hf1
        have hX : w.heap.size < wr.drew.heap.size := Nat.lt_of_lt_of_le HBX.out.lt BR.out.drew.size
        have hgw : g < wr.drew.heap.size := HGS.out
        go_wp2_with (first
          | (go_at_call 74; refine HF.out.mono ?_; rintro e w5 ⟨rfl, b5⟩; have BR5 : Hid (Below W.heap.size W w5) := BR.out.drew.trans (b5.mono BR.out.drew.size); have d3 := (b5.cell (p := ⟨w.heap.size, 3, none⟩) hX).trans d3; have n0 := (b5.cell (p := ⟨g, k * 2, none⟩) hgw).trans n0; have n1 := (b5.cell (p := ⟨g, k * 2 + 1, none⟩) hgw).trans n1; have ROW5 := Lib.hid (ownsRow_below (w := wr.drew) ROW.out b5))
          | (at_builtin; refine wpList_append_own_at _ rfl _ _ 71 rfl W.heap.size 133 i0 (.agg #[.int .i64 0, .int .u64 0]) 2 16 Try.underlying71 hi0 hz0 hz1 hz2 rfl (by decide) _ _ _ rfl (ROW5.out.alloc _) ⟨w5.heap.size, 0, none⟩ 1 1 [.int .i64 (x1 : Int), .int .u64 (x2 : Int)] rfl rfl ?c1 ?c2 ?c3 ?c4 ?c5 ?_))
        case c1 =>
          intro j u hj
          rw [addr_add0, Blk.cell (Blk.new w5 133 #[.int .i64 (x1 : Int), .int .u64 (x2 : Int)]) j]
          simpa using hj
        case c2 => intro u hu; simp at hu; rcases hu with rfl | rfl <;> rfl
        case c3 => unfold maxLen; omega
        case c4 => omega
        case c5 => have := BR5.out.size; simp; omega
        intro v' w6 hown hg6 _ _
        obtain ⟨q', c', rfl⟩ := owns_form hown
        have HB6 : Hid (Below W.heap.size W w6) := below_append BR5.out (by have := BR5.out.size; omega) ROW5.out hg6
        have HOWN := Lib.hid hown
        clear hown hg6
        go_wp2_with fail
        go_roundg (N - (k + 1))
        case measure => have := HR.out; omega
        case rel =>
          refine ⟨k + 1, nf + 1, q', c', by omega, by go_num, rfl, by rw [HTK.out, List.length_append, ← HNF.out]; rfl, ?_, HB6.out⟩
          rw [HTK.out, sl_app]
          exact HOWN.out
      · rw [if_neg (by rw [hl1]; decide), List.append_nil] at HTK
        have hf2 : ¬ fi ≥ 0 := by omega
        go_wp2_with (go_at_call 74; refine HF.out.mono ?_; rintro e w5 ⟨rfl, b5⟩; have BR5 : Hid (Below W.heap.size W w5) := BR.out.drew.trans (b5.mono BR.out.drew.size); have ROW5 := Lib.hid (ownsRow_below (w := wr.drew) ROW.out b5))
        go_roundg (N - (k + 1))
        case measure => have := HR.out; omega
        case rel => exact ⟨k + 1, nf, q, c, by omega, by go_num, rfl, by rw [HTK.out]; exact HNF.out, by rw [HTK.out]; exact ROW5.out, BR5.out⟩
    · obtain rfl : k = N := by omega
      have HTK : Hid (d.sl.take k = d.sl) := List.take_of_length_le (by rw [HN.out]; exact Nat.le_refl _)
      rw [HTK.out] at HNF ROW
      have hgn : (k : Int) - (nf : Int) = (wt : Int) := by have := HLC.out; rw [HWT.out] at this; have := HNF.out; omega
      have HGN := Lib.hid hgn
      have hbr := Blk.below HBR.out BR.out (Blk.lt HBR.out)
      have hbx := Blk.below HBX.out BR.out (Blk.lt HBX.out)
      have x3 := Blk.frozen hbx 3
      rw [HN.out] at d3
      have hXR : w.heap.size + 1 < W.heap.size := HBR.out.lt
      have hrq : ∀ g, (Value.slice q nf c).ownBlock = some g → W.heap.size ≤ g := fun g hg => (ROW.out.lt g hg).1
      have hx8 := Blk.set_ hbx 3 (.slice q nf c)
      have o8 : Only (fun g => g = w.heap.size) wr (wr.setCell ⟨w.heap.size, 3, none⟩ (.slice q nf c)) := (Only.refl (fun g => g = w.heap.size) wr).setCell1 (.inl rfl) 3 _
      have HBX0 := Lib.hid hbx
      have HBR0 := Lib.hid hbr
      have HX8 := Lib.hid hx8
      have O8 := Lib.hid o8
      clear hbx hbr hx8 o8 hgn
      have hbr8 := Blk.only HBR0.out O8.out (by omega)
      have y0 := Blk.cell HX8.out 0
      have y1 := Blk.cell HX8.out 1
      have y2 := Blk.cell HX8.out 2
      have y3 := Blk.cell HX8.out 3
      have e0 := Blk.cell hbr8 0
      have e1 := Blk.cell hbr8 1
      have e2 := Blk.cell hbr8 2
      have e3 := Blk.cell hbr8 3
      have f0 := Blk.frozen hbr8 0
      have f1 := Blk.frozen hbr8 1
      have f2 := Blk.frozen hbr8 2
      have f3 := Blk.frozen hbr8 3
      simp only [List.setIfInBounds_toArray, List.set_cons_zero, List.set_cons_succ, List.getElem?_toArray, List.getElem?_cons_zero, List.getElem?_cons_succ] at y0 y1 y2 y3 e0 e1 e2 e3
      have HBR8 := Lib.hid hbr8
      clear hbr8
      go_wp2_with fail
      have hz := putX_blk HBR8.out most (liveSl d) ⟨a.p, a.c, a.pA, a.cA, q, c, a.C⟩
      have z0 := Blk.cell hz 0
      have z1 := Blk.cell hz 1
      have z2 := Blk.cell hz 2
      have z3 := Blk.cell hz 3
      have ho := putX_only (w := wr.setCell ⟨w.heap.size, 3, none⟩ (.slice q nf c)) (R := w.heap.size + 1) most (liveSl d) ⟨a.p, a.c, a.pA, a.cA, q, c, a.C⟩
      have hNF : (liveSl d).sl.length = nf := HNF.out.symm
      have hA1 : (liveSl d).all.length = d.all.length := rfl
      have hA2 : (liveSl d).nm.length = d.nm.length := rfl
      simp only [putX, List.getElem?_toArray, List.getElem?_cons_zero, List.getElem?_cons_succ] at z0 z1 z2 z3 ho
      rw [hNF, hA1, hA2] at z0 z1 z2 z3 ho
      have o9 := (O8.out.more (S' := fun g => g = w.heap.size ∨ g = w.heap.size + 1) (fun g h => .inl (.inl h))).trans ho (fun g h => .inl (.inr h))
      have HBWr : Below w.heap.size w wr := HBW.out.trans (BR.out.mono HBW.out.size)
      have hgn := HGN.out
      refine bodyPost_ret (v := .tuple #[dixV most (liveSl d) ⟨a.p, a.c, a.pA, a.cA, q, c, a.C⟩, .int .i64 (wt : Int)]) (by simp [results, Try.results41, go_sem, z0, z1, z2, z3, hNF, hA1, hA2, hgn]) rfl ?_
      have hs := HBWr.size
      have hs4 := o9.size
      have hs5 := BR.out.size
      have hD := (H.out.below BR.out).only o9 (fun g hg he => by have := HPP.out g hg; omega)
      refine ⟨⟨a.p, a.c, a.pA, a.cA, q, c, a.C⟩, by rw [HWT.out], ⟨hD.names, fun g hg => .inl (hD.namesP g hg), hD.all.more (fun g hg => .inl hg), ?_, hD.len, fun i e c2 h1 h2 => ⟨(hD.sub i e c2 h1 h2).1.more (fun g hg => .inl hg), (hD.sub i e c2 h1 h2).2.more (fun g hg => .inl hg)⟩⟩, HBWr.trans (o9.below (fun g hg => by omega) hs)⟩
      show RowS _ _ q (liveSl d).sl.length c (slCs (liveSl d).sl)
      rw [hNF]
      have h := ownsRow_only ROW.out o9 (fun g hg he => by have := hrq g hg; omega)
      exact RowS.of_own h (by decide) (fun g hg => .inr ⟨by have := hrq g hg; omega, (h.lt g hg).2⟩)
end Go.Proofs.Ytfpkeinknhijaaa
