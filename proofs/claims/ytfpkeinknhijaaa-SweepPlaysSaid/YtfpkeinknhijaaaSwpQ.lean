/- Plain laws for steps of any sizes, and for two indexes side by side, layer 19. -/
import Derived.Test.YtfpkeinknhijaaaRevL
import Derived.Test.YtfpkeinknhijaaaRevJ
/- The sweeper's small functions, layer 19. -/
namespace Go.Proofs.Ytfpkeinknhijaaa
set_option linter.unusedVariables false
open Go.RowKit Go.Maps Go.Sort

/-- The place of the slot that is looked at next. -/
def thereX (d : Dx) (n i : Nat) : Option (Nat × Nat) :=
  if i < (ofX d.sl n).length then some (n, i) else if n + 1 < 65536 then (nextX d.sl (n + 1)).map fun k => (k, 0) else none
def placeV (p : Option (Nat × Nat)) : Value := .agg #[.int .i64 ((p.getD (0, 0)).1 : Int), .int .i64 ((p.getD (0, 0)).2 : Int)]
abbrev swCs (n i r : Nat) : Array Value := #[.int .i64 (n : Int), .int .i64 (i : Int), .int .u64 (r : Int)]
/-- A sweeper in memory. -/
abbrev Swp (w : World) (s n i r : Nat) : Prop := Blk w s 102 (swCs n i r)
theorem Swp.cells {w : World} {s n i r : Nat} (h : Swp w s n i r) : w.cell? ⟨s, 0, none⟩ = some (.int .i64 (n : Int)) ∧ w.cell? ⟨s, 1, none⟩ = some (.int .i64 (i : Int)) ∧ w.cell? ⟨s, 2, none⟩ = some (.int .u64 (r : Int)) := by
  have d0 := Blk.cell h 0
  have d1 := Blk.cell h 1
  have d2 := Blk.cell h 2
  simp only [List.getElem?_toArray, List.getElem?_cons_zero, List.getElem?_cons_succ] at d0 d1 d2
  exact ⟨d0, d1, d2⟩
set_option maxHeartbeats 1000000 in
theorem swnew_any (w : World) : Calls Try.prog 34 #[] w fun e w' => e = .returned (.pointer (some ⟨w.heap.size, 0, none⟩)) ∧ w' = w.alloc (.cells (swCs 0 0 0) 102) := by
  go_enter Try.func34, Try.ntmps34
  go_wp2_with fail
  go_ret
  exact ⟨rfl, rfl⟩
set_option maxHeartbeats 1000000 in
theorem swat_nil (w : World) : Calls Try.prog 79 #[.pointer none] w fun e w' => e = .returned (.tuple #[.int .i64 0, .int .i64 0]) ∧ w = w' := by
  go_enter Try.func79, Try.ntmps79
  go_wp2_with fail
  go_ret2
  exact ⟨rfl, rfl⟩
set_option maxHeartbeats 1000000 in
theorem swat_any {w : World} {s n i r : Nat} (h : Swp w s n i r) : Calls Try.prog 79 #[.pointer (some ⟨s, 0, none⟩)] w fun e w' => e = .returned (.tuple #[.int .i64 (n : Int), .int .i64 (i : Int)]) ∧ Below w.heap.size w w' := by
  obtain ⟨c0, c1, c2⟩ := h.cells
  clear h
  go_enter Try.func79, Try.ntmps79
  go_wp2_with fail
  go_quiet (fail)
  go_wp2_with fail
  go_ret2
  exact ⟨rfl, below_drewN (Below.refl _ _) _⟩
set_option maxHeartbeats 1000000 in
theorem swrounds_nil (w : World) : Calls Try.prog 46 #[.pointer none] w fun e w' => e = .returned (.int .u64 0) ∧ w = w' := by
  go_enter Try.func46, Try.ntmps46
  go_wp2_with fail
  go_ret
  exact ⟨rfl, rfl⟩
set_option maxHeartbeats 1000000 in
theorem swrounds_any {w : World} {s n i r : Nat} (h : Swp w s n i r) : Calls Try.prog 46 #[.pointer (some ⟨s, 0, none⟩)] w fun e w' => e = .returned (.int .u64 (r : Int)) ∧ w = w' := by
  obtain ⟨c0, c1, c2⟩ := h.cells
  clear h
  go_enter Try.func46, Try.ntmps46
  go_wp2_with fail
  go_ret
  exact ⟨rfl, rfl⟩
set_option maxHeartbeats 1000000 in
theorem swcopy_nil (w : World) : Calls Try.prog 48 #[.pointer none] w fun e w' => e = .returned (.pointer none) ∧ w = w' := by
  go_enter Try.func48, Try.ntmps48
  go_wp2_with fail
  go_ret
  exact ⟨rfl, rfl⟩
set_option maxHeartbeats 1000000 in
theorem swcopy_any {w : World} {s n i r : Nat} (h : Swp w s n i r) : Calls Try.prog 48 #[.pointer (some ⟨s, 0, none⟩)] w fun e w' => e = .returned (.pointer (some ⟨w.heap.size, 0, none⟩)) ∧ w' = w.alloc (.cells (swCs n i r) 102) := by
  obtain ⟨c0, c1, c2⟩ := h.cells
  clear h
  go_enter Try.func48, Try.ntmps48
  go_wp2_with fail
  go_ret
  exact ⟨rfl, rfl⟩
end Go.Proofs.Ytfpkeinknhijaaa
/- there, Step of a sweeper, layer 19. -/
namespace Go.Proofs.Ytfpkeinknhijaaa
set_option linter.unusedVariables false
open Go.RowKit Go.Maps Go.Sort

def ThereP (w : World) (p : Option (Nat × Nat)) (e : Ending) (w' : World) : Prop := e = .returned (.tuple #[placeV p, .bool p.isSome]) ∧ Below w.heap.size w w'
section
variable {w : World} {x tb lb sb : Nat} {most seed R : Int} {nn : Nat} {own : Nat → Option Nat} {Rd : Nat → Prop} {lm : List (Nat × (Slc × Slc))} {sm : List (Nat × Slc)} {l0 : Nms} {d : Dx} {s p i r : Nat}
set_option maxHeartbeats 4000000 in
set_option maxRecDepth 100000 in
theorem swthere_any (h : Ry w x tb lb sb most seed R nn own Rd lm sm l0 d) (hn : nn ≤ 100000) (hs : Swp w s p i r) (hp : p < 65536) (hi : i ≤ 1000000) :
    Calls Try.prog 80 #[.pointer (some ⟨s, 0, none⟩), .pointer (some ⟨x, 0, none⟩)] w (ThereP w (thereX d p i)) := by
  have HB : Hid (Below w.heap.size w (w.alloc (.cells #[.int .i64 0, .int .i64 0] 100))) := (Below.refl _ _).alloc (Nat.le_refl _) _
  have HA : Hid (Blk (w.alloc (.cells #[.int .i64 0, .int .i64 0] 100)) w.heap.size 100 #[.int .i64 0, .int .i64 0]) := Blk.new _ _ _
  obtain ⟨c0, c1, c2⟩ := Swp.cells (Blk.below hs HB.out (Blk.lt hs))
  have hslt : s < (w.alloc (.cells #[.int .i64 0, .int .i64 0] 100)).heap.size := Nat.lt_of_lt_of_le (Blk.lt hs) HB.out.size
  obtain ⟨L, hL⟩ : ∃ L, ofX d.sl p = L := ⟨_, rfl⟩
  have hsn : slotsN d.sl (p : Int) = L := by unfold slotsN; rw [if_pos (numB_lt hp), Int.toNat_natCast, hL]
  have hSl : ∀ w', Below w.heap.size w w' → Calls Try.prog 52 #[.pointer (some ⟨x, 0, none⟩), .int .i64 (p : Int)] w' (RowP w' 29 (idsV L) 0) := fun w' hb => by
    have := rvslots_any (h.below hb) hn (p : Int)
    rw [hsn, if_pos (numB_lt hp)] at this
    exact this
  have hNx : ∀ w', Below w.heap.size w w' → Calls Try.prog 69 #[.pointer (some ⟨x, 0, none⟩), .int .i64 ((p : Int) + 1)] w' fun e w'' => e = .returned (.tuple #[.int .i64 (nextI d.sl ((p : Int) + 1)).1, .int .i64 (nextI d.sl ((p : Int) + 1)).2]) ∧ Below w'.heap.size w' w'' := fun w' hb => rvnext_any (h.below hb) ((p : Int) + 1)
  have HSL := Lib.hid hSl
  have HNX := Lib.hid hNx
  have hll : L.length ≤ 100000 := by rw [← hL]; have := ofX_len d.sl p; have := h.ln.1; omega
  have hTX : thereX d p i = if i < L.length then some (p, i) else if p + 1 < 65536 then (nextX d.sl (p + 1)).map fun k => (k, 0) else none := by unfold thereX; rw [hL]
  obtain ⟨T, hT⟩ : ∃ T, L.length = T := ⟨_, rfl⟩
  rw [hT] at hTX hll
  have HT := Lib.hid hT
  have HTX := Lib.hid hTX
  clear h hs hL hsn hSl hNx hTX hT
  by_cases hit : i < T
  · have hR : thereX d p i = some (p, i) := by rw [HTX.out, if_pos hit]
    rw [hR]
    clear HTX HNX hR
    go_enter Try.func80, Try.ntmps80
    go_wp2_with (go_at_call 52; refine (HSL.out _ HB.out).mono ?_; rintro e w1 ⟨v1, rfl, hv1, b1⟩; rw [List.length_map, HT.out] at hv1; obtain ⟨p1, k1, rfl⟩ := owns_form hv1; have d0 := (b1.cell (p := ⟨s, 0, none⟩) hslt).trans c0; have d1 := (b1.cell (p := ⟨s, 1, none⟩) hslt).trans c1; have hb := HB.out.trans (b1.mono HB.out.size); have BA := Lib.hid (Blk.below HA.out b1 (Blk.lt HA.out)); have f0 := Blk.cell BA.out 0; have f1 := Blk.cell BA.out 1; have g0 := Blk.frozen BA.out 0; have g1 := Blk.frozen BA.out 1; simp only [List.getElem?_toArray, List.getElem?_cons_zero, List.getElem?_cons_succ] at f0 f1; clear c0 c1 c2)
    have h0 := Blk.cell (Blk.set_ (Blk.set_ BA.out 0 (.int .i64 (p : Int))) 1 (.int .i64 (i : Int))) 0
    have h1 := Blk.cell (Blk.set_ (Blk.set_ BA.out 0 (.int .i64 (p : Int))) 1 (.int .i64 (i : Int))) 1
    simp at h0 h1
    refine bodyPost_ret (v := .tuple #[.agg #[.int .i64 (p : Int), .int .i64 (i : Int)], .bool true]) (by simp [results, Try.results80, go_sem, h0, h1]) rfl ⟨rfl, (hb.setCell (Nat.le_refl _) _).setCell (Nat.le_refl _) _⟩
  · have h0 : numB ((p : Int) + 1) = decide (p + 1 < 65536) := by unfold numB; rw [decide_eq_true (show 0 ≤ (p : Int) + 1 by omega), Bool.true_and]; exact decide_eq_decide.2 (by omega)
    have hnx : ∃ k : Nat, ∃ er : Int, nextI d.sl ((p : Int) + 1) = ((k : Int), er) ∧ thereX d p i = (if er = 0 then some (k, 0) else none) ∧ (¬ er = 0 → k = 0) := by
      rw [HTX.out, if_neg hit]
      unfold nextI
      rw [h0]
      by_cases hp1 : p + 1 < 65536
      · have e1 : ((p : Int) + 1).toNat = p + 1 := by omega
        rw [if_pos (by simpa using hp1), if_pos hp1, e1]
        cases nextX d.sl (p + 1) with
        | none => exact ⟨0, 9, rfl, rfl, fun _ => rfl⟩
        | some k => exact ⟨k, 0, rfl, rfl, fun h => absurd rfl h⟩
      · rw [if_neg (by simpa using hp1), if_neg hp1]
        exact ⟨0, 2, rfl, rfl, fun _ => rfl⟩
    obtain ⟨k, er, hn1, hn2, hn3⟩ := hnx
    rw [hn1] at HNX
    rw [hn2]
    have hwr : IntKind.i64.wrap ((p : Int) + 1) = (p : Int) + 1 := IntWalk.i64_in _ (by omega)
    have hpl : (if er = 0 then some (k, 0) else none : Option (Nat × Nat)).isSome = (er == 0) ∧ placeV (if er = 0 then some (k, 0) else none) = .agg #[.int .i64 (k : Int), .int .i64 0] := by
      by_cases her : er = 0
      · rw [if_pos her]; exact ⟨(beq_iff_eq.2 her).symm, rfl⟩
      · rw [if_neg her, hn3 her]; exact ⟨(beq_eq_false_iff_ne.2 her).symm, rfl⟩
    unfold ThereP
    rw [hpl.1, hpl.2]
    have hti : ¬ (i : Int) < (T : Int) := by omega
    clear HTX hn1 hn2 hn3 hpl h0 hit
    go_enter Try.func80, Try.ntmps80
    go_wp2_with (first
      | (go_at_call 52; refine (HSL.out _ HB.out).mono ?_; rintro e w1 ⟨v1, rfl, hv1, b1⟩; rw [List.length_map, HT.out] at hv1; obtain ⟨p1, k1, rfl⟩ := owns_form hv1; have d0 := (b1.cell (p := ⟨s, 0, none⟩) hslt).trans c0; have d1 := (b1.cell (p := ⟨s, 1, none⟩) hslt).trans c1; have hb := HB.out.trans (b1.mono HB.out.size); have BA := Lib.hid (Blk.below HA.out b1 (Blk.lt HA.out)); have f0 := Blk.cell BA.out 0; have f1 := Blk.cell BA.out 1; have g0 := Blk.frozen BA.out 0; have g1 := Blk.frozen BA.out 1; simp only [List.getElem?_toArray, List.getElem?_cons_zero, List.getElem?_cons_succ] at f0 f1; clear c0 c1 c2)
      | (go_at_call 69; refine (HNX.out _ hb).mono ?_; rintro e w2 ⟨rfl, b2⟩; have BA2 := Lib.hid (Blk.below BA.out b2 (Blk.lt BA.out)); have f0 := Blk.cell BA2.out 0; have f1 := Blk.cell BA2.out 1; have g0 := Blk.frozen BA2.out 0; have g1 := Blk.frozen BA2.out 1; simp only [List.getElem?_toArray, List.getElem?_cons_zero, List.getElem?_cons_succ] at f0 f1; have hb2 := hb.trans (b2.mono hb.size)))
    have h0 := Blk.cell (Blk.set_ (Blk.set_ BA2.out 0 (.int .i64 (k : Int))) 1 (.int .i64 0)) 0
    have h1 := Blk.cell (Blk.set_ (Blk.set_ BA2.out 0 (.int .i64 (k : Int))) 1 (.int .i64 0)) 1
    simp at h0 h1
    refine bodyPost_ret (v := .tuple #[.agg #[.int .i64 (k : Int), .int .i64 0], .bool (er == 0)]) (by simp [results, Try.results80, go_sem, h0, h1]) rfl ⟨rfl, (hb2.setCell (Nat.le_refl _) _).setCell (Nat.le_refl _) _⟩
end
end Go.Proofs.Ytfpkeinknhijaaa
/- Step of a sweeper, layer 19. -/
namespace Go.Proofs.Ytfpkeinknhijaaa
set_option linter.unusedVariables false
open Go.RowKit Go.Maps Go.Sort

structure Sst where
  d : Dx
  n : Nat
  i : Nat
  fin : Bool
  lk : Nat
  gn : Nat
/-- Steps: how many more, the index, the place, how many were looked at and forgotten. -/
def swGo : Nat → Dx → Nat → Nat → Nat → Nat → Sst
  | 0, d, n, i, lk, gn => ⟨d, n, i, false, lk, gn⟩
  | f + 1, d, n, i, lk, gn =>
    match thereX d n i with
    | none => ⟨d, 0, 0, true, lk, gn⟩
    | some p => if (d.cut p.1 p.2).2.1 = true then swGo f (d.cut p.1 p.2).1 p.1 p.2 (lk + 1) (gn + 1) else swGo f d p.1 (p.2 + 1) (lk + 1) gn
theorem swGo_end {f : Nat} {d : Dx} {n i : Nat} (h : thereX d n i = none) (lk gn : Nat) : swGo (f + 1) d n i lk gn = ⟨d, 0, 0, true, lk, gn⟩ := by rw [swGo, h]
theorem swGo_cut {f : Nat} {d : Dx} {n i a b : Nat} (h : thereX d n i = some (a, b)) (hc : (d.cut a b).2.1 = true) (lk gn : Nat) : swGo (f + 1) d n i lk gn = swGo f (d.cut a b).1 a b (lk + 1) (gn + 1) := by
  rw [swGo, h]
  simp only
  rw [if_pos hc]
theorem swGo_next {f : Nat} {d : Dx} {n i a b : Nat} (h : thereX d n i = some (a, b)) (hc : (d.cut a b).2.1 = false) (lk gn : Nat) : swGo (f + 1) d n i lk gn = swGo f d a (b + 1) (lk + 1) gn := by
  rw [swGo, h]
  simp only
  rw [if_neg (by rw [hc]; decide)]
theorem cut_same {d : Dx} {n i : Int} (h : (d.cut n i).2.1 = false) : (d.cut n i).1 = d := by
  unfold Dx.cut at h ⊢
  by_cases h1 : numB n = true
  · rw [if_pos h1] at h ⊢
    by_cases h2 : 0 ≤ i
    · rw [if_pos h2] at h ⊢
      cases h3 : (ofX d.sl n.toNat)[i.toNat]? with
      | none => rfl
      | some id =>
        rw [h3] at h
        simp only at h ⊢
        by_cases h4 : liveE d.all id = true
        · rw [if_pos h4]
        · rw [if_neg h4] at h; cases h
    · rw [if_neg h2]
  · rw [if_neg h1]
theorem there_lt {most R : Int} {d : Dx} (h : Iw most R d) (hm : most ≤ 65536) {n i a b : Nat} (hn : n < 65536) (ht : thereX d n i = some (a, b)) : a < 65536 ∧ b < (ofX d.sl a).length := by
  unfold thereX at ht
  by_cases h1 : i < (ofX d.sl n).length
  · rw [if_pos h1] at ht
    injection ht with ht
    injection ht with e1 e2
    subst e1 e2
    exact ⟨hn, h1⟩
  · rw [if_neg h1] at ht
    by_cases h2 : n + 1 < 65536
    · rw [if_pos h2] at ht
      obtain ⟨k, hk, he⟩ := Option.map_eq_some_iff.1 ht
      injection he with e1 e2
      subst e1 e2
      obtain ⟨h3, h4, _⟩ := nextX_some hk
      obtain ⟨u, hu⟩ := List.exists_mem_of_ne_nil _ h4
      have := h.nlt _ (ofX_mem.1 hu)
      simp only at this
      exact ⟨by omega, List.length_pos_iff.2 h4⟩
    · rw [if_neg h2] at ht; cases ht
section
variable {V w w' : World} {S : Nat → Prop} {x : Nat} {most seed R : Int} {nn : Nat} {d : Dx}
/-- Some of the kept blocks turn. -/
theorem Kr.go (k : Kr V w S x most seed R nn d) {U : Nat → Prop} (ho : Only U w w') (hU : ∀ g, U g → S g ∧ V.heap.size ≤ g) : Kr V w' S x most seed R nn d := by
  obtain ⟨O, Rd, h1, h2, h3, h4⟩ := k
  exact ⟨O, Rd, h1.only ho (fun g hg h => (h2 g hg).2 (hU g h).1), h2, fun g hg => Nat.lt_of_lt_of_le (h3 g hg) ho.size, h4.trans (ho.below (fun g h => (hU g h).2) h4.size)⟩
end
def SwpO (V : World) (S : Nat → Prop) (s g : Nat) : Prop := g = s ∨ (¬ S g ∧ V.heap.size ≤ g)
/-- What Step leaves. -/
def StepP (V w : World) (S : Nat → Prop) (x : Nat) (most seed R : Int) (nn : Nat) (s rd : Nat) (r : Sst) (e : Ending) (w' : World) : Prop :=
  e = .returned (.tuple #[.int .i64 (r.lk : Int), .int .i64 (r.gn : Int), .int .i64 0]) ∧ Kr V w' S x most seed R nn r.d ∧ Swp w' s r.n r.i (if r.fin = true then rd + 1 else rd) ∧ Only (SwpO V S s) w w'
set_option maxHeartbeats 4000000 in
set_option maxRecDepth 100000 in
theorem swstep_any {V w : World} {S : Nat → Prop} {x : Nat} {most seed R : Int} {nn : Nat} {d : Dx} {s n i rd : Nat} (k : Kr V w S x most seed R nn d) (hs : Swp w s n i rd) (hS : S s) (hV : V.heap.size ≤ s) (m : Nat) (hm : nn + m ≤ 100000) (hp : n < 65536) (hi : i ≤ 100001) (hrd : rd ≤ 1000000) :
    Calls Try.prog 45 #[.pointer (some ⟨s, 0, none⟩), .pointer (some ⟨x, 0, none⟩), .int .i64 (m : Int)] w (StepP V w S x most seed R (nn + m) s rd (swGo m d n i 0 0)) := by
  obtain ⟨tb, lb, sb, own, Rd, lm, sm, l0, hry⟩ := k.ry
  have HSL := Lib.hid (rvslots_any hry (by omega) 0)
  obtain ⟨res, hres⟩ : ∃ res, swGo m d n i 0 0 = res := ⟨_, rfl⟩
  rw [hres]
  have HRES := Lib.hid hres
  have HK := Lib.hid k
  have HSW := Lib.hid hs
  have hn0 : (if numB 0 = true then (0 : Int) else 2) = 0 := by decide
  rw [hn0] at HSL
  have hm0 : ¬ (m : Int) < 0 := by omega
  clear hry hres k hs hn0
  go_enter Try.func45, Try.ntmps45
  go_wp2_with fail
  go_step3
  go_wp2_with (go_at_call 52; refine HSL.out.mono ?_; rintro e w1 ⟨v1, rfl, hv1, b1⟩; obtain ⟨p1, k1, rfl⟩ := owns_form hv1)
  go_step3
  go_wp2_with fail
  clear hv1 HSL
  have K1 := Lib.hid (HK.out.quiet b1)
  have SW1 := Lib.hid (Blk.below HSW.out b1 (Blk.lt HSW.out))
  have O1 : Hid (Only (SwpO V S s) w w1) := Only.of_below b1 _
  clear b1 HK HSW
  go_loopg [6, 7] m (fun r s6 s7 wr => ∃ (lk gn n' i' : Nat) (d' : Dx), r + lk = m ∧ s6 = .int .i64 (lk : Int) ∧ s7 = .int .i64 (gn : Int) ∧ swGo r d' n' i' lk gn = res ∧ Kr V wr S x most seed R (nn + lk) d' ∧ Swp wr s n' i' rd ∧ n' < 65536 ∧ i' ≤ 100001 ∧ gn ≤ lk ∧ Only (SwpO V S s) w wr)
  case atStart => exact ⟨0, 0, n, i, d, by omega, rfl, rfl, HRES.out, K1.out, SW1.out, hp, hi, Nat.le_refl _, O1.out⟩
  case round =>
    clear K1 SW1 O1 HRES
    obtain ⟨lk, gn, n', i', d', hr, rfl, rfl, hgo, hk, hsw, hp', hi', hgl, ho⟩ := hrel
    have HR := Lib.hid hr
    have HGO := Lib.hid hgo
    have HK := Lib.hid hk
    have HSW := Lib.hid hsw
    have HO := Lib.hid ho
    have hlm : lk ≤ m := by omega
    clear hr hgo hk hsw ho
    by_cases hlt : lk < m
    · obtain ⟨f, hf⟩ : ∃ f, gk = f + 1 := ⟨gk - 1, by have := HR.out; omega⟩
      have HF := Lib.hid hf
      have hgo := HGO.out
      rw [hf] at hgo
      obtain ⟨tb, lb, sb, own, Rd, lm, sm, l0, hry⟩ := HK.out.ry
      have hth := swthere_any hry (by omega) HSW.out hp' (by omega)
      have hiw := HK.out.facts
      clear hry hf HGO
      cases ht : thereX d' n' i' with
      | none =>
        rw [ht] at hth
        rw [swGo_end ht] at hgo
        have HGO := Lib.hid hgo
        change Calls _ _ _ _ (fun e w' => e = .returned (.tuple #[.agg #[.int .i64 0, .int .i64 0], .bool false]) ∧ Below wr.heap.size wr w') at hth
        have HTH := Lib.hid hth
        clear hgo hth hiw ht
        go_wp2_with (go_at_call 80; refine HTH.out.mono ?_; rintro e w2 ⟨rfl, b2⟩; have SW2 := Lib.hid (Blk.below HSW.out b2 (Blk.lt HSW.out)); have hslt := Blk.lt SW2.out; obtain ⟨e0, e1, e2⟩ := Swp.cells SW2.out; have g0 := Blk.frozen SW2.out 0; have g1 := Blk.frozen SW2.out 1; have g2 := Blk.frozen SW2.out 2)
        rw [Exit.noGoto_ret]
        go_ret3
        have OT : Only (fun g => g = s) wr (((((w2.setCell ⟨s, 0, none⟩ (.int .i64 0)).setCell ⟨s, 1, none⟩ (.int .i64 0)).setCell ⟨s, 2, none⟩ (.int .u64 ((rd : Int) + 1))).alloc (.cells #[.int .i64 0, .int .i64 0] 100))) := ((((Only.of_below b2 (fun g => g = s)).setCell1 (.inl rfl) 0 _).setCell1 (.inl rfl) 1 _).setCell1 (.inl rfl) 2 _).alloc _
        have hsw := Blk.alloc (Blk.set_ (Blk.set_ (Blk.set_ SW2.out 0 (.int .i64 0)) 1 (.int .i64 0)) 2 (.int .u64 ((rd : Int) + 1))) (.cells #[.int .i64 0, .int .i64 0] 100)
        rw [← HGO.out]
        refine ⟨rfl, (HK.out.go OT (fun g h => by rw [h]; exact ⟨hS, hV⟩)).mono (Int.le_refl _) (by omega), ?_, HO.out.trans OT (fun g h => .inl (.inl h))⟩
        show Blk _ s 102 #[.int .i64 ((0 : Nat) : Int), .int .i64 ((0 : Nat) : Int), .int .u64 ((rd + 1 : Nat) : Int)]
        simpa using hsw
      | some ab =>
        obtain ⟨a, b⟩ := ab
        rw [ht] at hth
        change Calls _ _ _ _ (fun e w' => e = .returned (.tuple #[.agg #[.int .i64 (a : Int), .int .i64 (b : Int)], .bool true]) ∧ Below wr.heap.size wr w') at hth
        obtain ⟨ha, hb⟩ := there_lt hiw.1 hiw.2.2.2.2.1 hp' ht
        have hbl : b ≤ 100000 := by have := ofX_len d'.sl a; have := hiw.2.1; omega
        obtain ⟨⟨d2, cb, er⟩, hx⟩ : ∃ r, d'.cut a b = r := ⟨_, rfl⟩
        have hgo2 : cb = true → swGo f d2 a b (lk + 1) (gn + 1) = res := fun h => by rw [← hgo, swGo_cut ht (by rw [hx]; exact h), hx]
        have hgo3 : cb = false → d2 = d' ∧ swGo f d' a (b + 1) (lk + 1) gn = res := fun h => by
          refine ⟨?_, by rw [← hgo, swGo_next ht (by rw [hx]; exact h)]⟩
          have := cut_same (d := d') (n := a) (i := b) (by rw [hx]; exact h)
          rw [hx] at this
          exact this
        have HGO2 := Lib.hid hgo2
        have HGO3 := Lib.hid hgo3
        have HTH := Lib.hid hth
        have HX := Lib.hid hx
        have HKG : Hid (∀ W3, Only (fun g => g = s) wr W3 → Kr V W3 S x most seed R (nn + lk) d') := fun W3 h => HK.out.go h (fun g h => by rw [h]; exact ⟨hS, hV⟩)
        clear hgo hth hiw ht hgo2 hgo3 hb hx
        go_wp2_with (go_at_call 80; refine HTH.out.mono ?_; rintro e w2 ⟨rfl, b2⟩; have SW2 := Lib.hid (Blk.below HSW.out b2 (Blk.lt HSW.out)); have hslt := Blk.lt SW2.out; obtain ⟨e0, e1, e2⟩ := Swp.cells SW2.out; have g0 := Blk.frozen SW2.out 0; have g1 := Blk.frozen SW2.out 1; have g2 := Blk.frozen SW2.out 2)
        have OT := (((Only.of_below b2 (fun g => g = s)).setCell1 (.inl rfl) 0 (.int .i64 (a : Int))).setCell1 (.inl rfl) 1 (.int .i64 (b : Int))).alloc (.cells #[.int .i64 (a : Int), .int .i64 (b : Int)] 100)
        have hsw := Blk.alloc (Blk.set_ (Blk.set_ SW2.out 0 (.int .i64 (a : Int))) 1 (.int .i64 (b : Int))) (.cells #[.int .i64 (a : Int), .int .i64 (b : Int)] 100)
        refine (Kr.cutv (HKG.out _ OT) (by omega) (a : Int) (b : Int) HX.out).mono ?_
        rintro e w4 ⟨rfl, k4, o4⟩
        have SW4 : Hid (Swp w4 s a b rd) := by
          have h := Blk.only hsw o4 (fun h => h.1 hS)
          have h2 : Blk w4 s 102 #[.int .i64 (a : Int), .int .i64 (b : Int), .int .u64 (rd : Int)] := by simpa using h
          exact h2
        have K4 := Lib.hid k4
        have O4 := Lib.hid ((HO.out.trans OT (fun g h => .inl (.inl h))).trans o4 (fun g h => .inl (.inr h)))
        have hslt4 := Blk.lt SW4.out
        obtain ⟨e0', e1', e2'⟩ := Swp.cells SW4.out
        have g1' := Blk.frozen SW4.out 1
        clear OT hsw k4 o4 SW2 hslt e0 e1 e2 g0 g1 g2 b2 HTH HX HKG HK HSW HO
        cases cb with
        | true =>
          have HG := Lib.hid (HGO2.out rfl)
          clear HGO2 HGO3
          go_wp2_with fail
          go_roundg f
          case measure => have := HF.out; omega
          case rel => exact ⟨lk + 1, gn + 1, a, b, d2, by have := HF.out; have := HR.out; omega, by go_num, by go_num, HG.out, K4.out, SW4.out, ha, by omega, by omega, O4.out⟩
        | false =>
          obtain ⟨rfl, hg⟩ := HGO3.out rfl
          have HG := Lib.hid hg
          clear HGO2 HGO3 hg
          go_wp2_with fail
          go_roundg f
          case measure => have := HF.out; omega
          case rel =>
            have hsw := Blk.set_ SW4.out 1 (.int .i64 ((b : Int) + 1))
            have hsw2 : Blk (w4.setCell ⟨s, 1, none⟩ (.int .i64 ((b : Int) + 1))) s 102 #[.int .i64 (a : Int), .int .i64 ((b + 1 : Nat) : Int), .int .u64 (rd : Int)] := by simpa using hsw
            have OT := (Only.refl (fun g => g = s) w4).setCell1 (.inl rfl) 1 (.int .i64 ((b : Int) + 1))
            exact ⟨lk + 1, gn, a, b + 1, d2, by have := HF.out; have := HR.out; omega, by go_num, rfl, HG.out, K4.out.go OT (fun g h => by rw [h]; exact ⟨hS, hV⟩), hsw2, ha, by omega, by omega, O4.out.trans OT (fun g h => .inl (.inl h))⟩
    · obtain rfl : lk = m := by omega
      have hg0 : gk = 0 := by have := HR.out; omega
      have hgo := HGO.out
      rw [hg0, swGo] at hgo
      have HG := Lib.hid hgo
      clear HGO hgo hg0
      go_wp2_with fail
      rw [Exit.noGoto_ret]
      go_ret3
      rw [← HG.out]
      exact ⟨rfl, HK.out, HSW.out, HO.out⟩
end Go.Proofs.Ytfpkeinknhijaaa
/- Plain laws of a sweeper's round, layer 19. -/
namespace Go.Proofs.Ytfpkeinknhijaaa
set_option linter.unusedVariables false

/-- How many slots a round has still to look at. -/
def remX (d : Dx) (n i : Nat) : Nat := ((ofX d.sl n).length - i) + d.sl.countP (fun s => decide (n < s.1))
theorem ofX_length (T : List (Nat × Nat)) (n : Nat) : (ofX T n).length = T.countP (fun s => decide (s.1 = n)) := by
  unfold ofX
  rw [List.length_map, List.countP_eq_length_filter]
  refine congrArg List.length ?_
  refine List.filter_congr fun s _ => ?_
  rw [Bool.eq_iff_iff]
  simp
theorem count_from (T : List (Nat × Nat)) (n : Nat) : T.countP (fun s => decide (n ≤ s.1)) = (ofX T n).length + T.countP (fun s => decide (n < s.1)) := by
  rw [ofX_length]
  induction T with
  | nil => rfl
  | cons s r ih =>
    rw [List.countP_cons, List.countP_cons, List.countP_cons, ih]
    rcases Nat.lt_trichotomy n s.1 with h | h | h
    · simp [Nat.le_of_lt h, h, Nat.ne_of_gt h]; omega
    · subst h; simp; omega
    · have h1 : ¬ n ≤ s.1 := by omega
      have h2 : ¬ n < s.1 := by omega
      have h3 : ¬ s.1 = n := by omega
      simp [h1, h2, h3]
theorem remX_start (d : Dx) : remX d 0 0 = d.sl.length := by
  unfold remX
  rw [Nat.sub_zero, ← count_from, List.countP_eq_length]
  intro s _
  simp
/-- Between n and the next number that has slots there is nothing. -/
theorem count_skip {T : List (Nat × Nat)} {n k : Nat} (hk : n < k) (h : ∀ m, n + 1 ≤ m → ofX T m ≠ [] → k ≤ m) : T.countP (fun s => decide (n < s.1)) = T.countP (fun s => decide (k ≤ s.1)) := by
  refine List.countP_congr fun s hs => ?_
  simp only [decide_eq_true_eq]
  constructor
  · intro hn
    refine h s.1 hn (fun he => ?_)
    have : s.2 ∈ ofX T s.1 := ofX_mem.2 hs
    rw [he] at this
    cases this
  · intro hn; omega
theorem there_rem {d : Dx} {n i a b : Nat} (ht : thereX d n i = some (a, b)) : remX d n i = remX d a b ∧ b < (ofX d.sl a).length := by
  unfold thereX at ht
  by_cases h1 : i < (ofX d.sl n).length
  · rw [if_pos h1] at ht
    injection ht with ht
    injection ht with e1 e2
    subst e1 e2
    exact ⟨rfl, h1⟩
  · rw [if_neg h1] at ht
    by_cases h2 : n + 1 < 65536
    · rw [if_pos h2] at ht
      obtain ⟨k, hk, he⟩ := Option.map_eq_some_iff.1 ht
      injection he with e1 e2
      subst e1 e2
      obtain ⟨h3, h4, h5⟩ := nextX_some hk
      refine ⟨?_, List.length_pos_iff.2 h4⟩
      unfold remX
      rw [count_skip (by omega) h5, count_from]
      omega
    · rw [if_neg h2] at ht; cases ht
theorem there_none {d : Dx} {n i : Nat} (hlt : ∀ s ∈ d.sl, s.1 < 65536) (ht : thereX d n i = none) : remX d n i = 0 ∧ (ofX d.sl n).length ≤ i ∧ ∀ s ∈ d.sl, s.1 ≤ n := by
  unfold thereX at ht
  by_cases h1 : i < (ofX d.sl n).length
  · rw [if_pos h1] at ht; cases ht
  · rw [if_neg h1] at ht
    have hno : ∀ s ∈ d.sl, s.1 ≤ n := by
      intro s hs
      by_cases h2 : n + 1 < 65536
      · rw [if_pos h2] at ht
        have hn := Option.map_eq_none_iff.1 ht
        by_cases h3 : s.1 ≤ n
        · exact h3
        · have := nextX_none hn s.1 (by omega)
          have h4 : s.2 ∈ ofX d.sl s.1 := ofX_mem.2 hs
          rw [this] at h4
          cases h4
      · have := hlt s hs; omega
    refine ⟨?_, by omega, hno⟩
    unfold remX
    have : d.sl.countP (fun s => decide (n < s.1)) = 0 := by
      rw [List.countP_eq_zero]
      intro s hs
      have := hno s hs
      simp
      omega
    omega
/-- What a cut does at a slot that is there. -/
theorem cut_at {d : Dx} {a b id : Nat} (ha : a < 65536) (h : (ofX d.sl a)[b]? = some id) : d.cut a b = if liveE d.all id = true then (d, false, 0) else (⟨d.nm, d.all, cutL a d.sl b⟩, true, 0) := by
  unfold Dx.cut
  rw [if_pos (numB_lt ha), if_pos (by omega : (0 : Int) ≤ (b : Int)), Int.toNat_natCast, Int.toNat_natCast, h]
/-- All before a place is right. -/
def DoneX (d : Dx) (n i : Nat) : Prop := (∀ s ∈ d.sl, s.1 < n → liveE d.all s.2 = true) ∧ ∀ j id, j < i → (ofX d.sl n)[j]? = some id → liveE d.all id = true
theorem DoneX.start (d : Dx) : DoneX d 0 0 := ⟨fun s _ h => absurd h (Nat.not_lt_zero _), fun j id h => absurd h (Nat.not_lt_zero _)⟩
theorem DoneX.all_ {d : Dx} {n i : Nat} (h : DoneX d n i) (hl : (ofX d.sl n).length ≤ i) {s : Nat × Nat} (hs : s ∈ d.sl) (hn : s.1 ≤ n) : liveE d.all s.2 = true := by
  rcases Nat.lt_or_eq_of_le hn with h1 | h1
  · exact h.1 s hs h1
  · have hm : s.2 ∈ ofX d.sl n := ofX_mem.2 (by rw [← h1]; exact hs)
    obtain ⟨j, hj, he⟩ := List.mem_iff_getElem.1 hm
    exact h.2 j s.2 (by omega) (by rw [List.getElem?_eq_getElem hj, he])
theorem DoneX.there {d : Dx} {n i a b : Nat} (h : DoneX d n i) (ht : thereX d n i = some (a, b)) : DoneX d a b := by
  unfold thereX at ht
  by_cases h1 : i < (ofX d.sl n).length
  · rw [if_pos h1] at ht
    injection ht with ht
    injection ht with e1 e2
    subst e1 e2
    exact h
  · rw [if_neg h1] at ht
    by_cases h2 : n + 1 < 65536
    · rw [if_pos h2] at ht
      obtain ⟨k, hk, he⟩ := Option.map_eq_some_iff.1 ht
      injection he with e1 e2
      subst e1 e2
      obtain ⟨h3, h4, h5⟩ := nextX_some hk
      refine ⟨fun s hs hsk => ?_, fun j id hj => absurd hj (Nat.not_lt_zero _)⟩
      by_cases h6 : s.1 ≤ n
      · exact h.all_ (by omega) hs h6
      · have := h5 s.1 (by omega) (fun he => by
          have hm : s.2 ∈ ofX d.sl s.1 := ofX_mem.2 hs
          rw [he] at hm
          cases hm)
        omega
    · rw [if_neg h2] at ht; cases ht
theorem DoneX.live {d : Dx} {a b id : Nat} (h : DoneX d a b) (hb : (ofX d.sl a)[b]? = some id) (hl : liveE d.all id = true) : DoneX d a (b + 1) := by
  refine ⟨h.1, fun j id' hj hi => ?_⟩
  rcases Nat.lt_or_eq_of_le (Nat.le_of_lt_succ hj) with h1 | h1
  · exact h.2 j id' h1 hi
  · subst h1
    rw [hb] at hi
    injection hi with hi
    rw [← hi]
    exact hl
theorem DoneX.cut {d : Dx} {a b : Nat} (h : DoneX d a b) : DoneX ⟨d.nm, d.all, cutL a d.sl b⟩ a b := by
  refine ⟨fun s hs hn => h.1 s ((cutL_sub a d.sl b).subset hs) hn, fun j id hj hi => ?_⟩
  simp only at hi
  rw [cutL_of_same, List.getElem?_eraseIdx_of_lt hj] at hi
  exact h.2 j id hj hi
theorem rem_cut {d : Dx} {a b id : Nat} (hb : (ofX d.sl a)[b]? = some id) : remX d a b = remX ⟨d.nm, d.all, cutL a d.sl b⟩ a b + 1 := by
  have hlt := (List.getElem?_eq_some_iff.1 hb).1
  unfold remX
  have h1 := cutL_count (fun s => decide (a < s.1)) a d.sl b id hb
  simp at h1
  simp only
  rw [cutL_of_same, List.length_eraseIdx, if_pos hlt, h1]
  omega
theorem rem_live {d : Dx} {a b : Nat} (hb : b < (ofX d.sl a).length) : remX d a b = remX d a (b + 1) + 1 := by
  unfold remX
  omega
/-- What steps do. -/
structure GoIs (d : Dx) (n i lk gn f : Nat) (r : Sst) : Prop where
  nm : r.d.nm = d.nm
  all : r.d.all = d.all
  keep : r.d.sl.filter (fun s => liveE d.all s.2) = d.sl.filter (fun s => liveE d.all s.2)
  sub : r.d.sl.Sublist d.sl
  wrong : wrongX d.all d.sl + gn = wrongX d.all r.d.sl + r.gn
  size : d.sl.length + gn = r.d.sl.length + r.gn
  gone : r.gn + lk ≤ r.lk + gn
  lks : lk ≤ r.lk ∧ r.lk ≤ lk + f
  on : r.fin = false → r.lk = lk + f ∧ remX r.d r.n r.i + f = remX d n i ∧ DoneX r.d r.n r.i ∧ r.n < 65536 ∧ (r.i ≤ d.sl.length ∨ r.i ≤ i)
  fin : r.fin = true → r.lk = lk + remX d n i ∧ remX d n i < f ∧ (∀ s ∈ r.d.sl, liveE d.all s.2 = true) ∧ r.n = 0 ∧ r.i = 0
theorem go_is : ∀ (f : Nat) (d : Dx) (n i lk gn : Nat), n < 65536 → (∀ s ∈ d.sl, s.1 < 65536) → DoneX d n i → GoIs d n i lk gn f (swGo f d n i lk gn)
  | 0, d, n, i, lk, gn, hn, hlt, hd => by
    rw [swGo]
    exact ⟨rfl, rfl, rfl, List.Sublist.refl _, rfl, rfl, Nat.le_of_eq (Nat.add_comm _ _), ⟨Nat.le_refl _, Nat.le_refl _⟩, fun _ => ⟨rfl, rfl, hd, hn, .inr (Nat.le_refl _)⟩, fun h => (by cases h)⟩
  | f + 1, d, n, i, lk, gn, hn, hlt, hd => by
    cases ht : thereX d n i with
    | none =>
      rw [swGo_end ht]
      obtain ⟨h1, h2, h3⟩ := there_none hlt ht
      exact ⟨rfl, rfl, rfl, List.Sublist.refl _, rfl, rfl, Nat.le_of_eq (Nat.add_comm _ _), ⟨Nat.le_refl _, Nat.le_add_right _ _⟩, fun h => (by cases h), fun _ => ⟨by rw [h1]; rfl, by rw [h1]; omega, fun s hs => hd.all_ h2 hs (h3 s hs), rfl, rfl⟩⟩
    | some ab =>
      obtain ⟨a, b⟩ := ab
      obtain ⟨hr, hb⟩ := there_rem ht
      have hda := hd.there ht
      obtain ⟨id, hid⟩ : ∃ id, (ofX d.sl a)[b]? = some id := ⟨_, List.getElem?_eq_getElem hb⟩
      have ha : a < 65536 := by
        have hm := List.mem_of_getElem? hid
        exact hlt _ (ofX_mem.1 hm)
      have hcut := cut_at ha hid
      by_cases hl : liveE d.all id = true
      · rw [if_pos hl] at hcut
        rw [swGo_next ht (by rw [hcut])]
        have g := go_is f d a (b + 1) (lk + 1) gn ha hlt (hda.live hid hl)
        have hrl := rem_live hb
        have hbl : b + 1 ≤ d.sl.length := Nat.le_trans hb (ofX_len d.sl a)
        refine ⟨g.nm, g.all, g.keep, g.sub, g.wrong, g.size, by have := g.gone; omega, ⟨by have := g.lks.1; omega, by have := g.lks.2; omega⟩, fun h => ?_, fun h => ?_⟩
        · obtain ⟨k1, k2, k3, k4, k5⟩ := g.on h
          exact ⟨by omega, by omega, k3, k4, .inl (by omega)⟩
        · obtain ⟨k1, k2, k3⟩ := g.fin h
          exact ⟨by omega, by omega, k3⟩
      · rw [if_neg hl] at hcut
        rw [swGo_cut ht (by rw [hcut]), hcut]
        show GoIs d n i lk gn (f + 1) (swGo f ⟨d.nm, d.all, cutL a d.sl b⟩ a b (lk + 1) (gn + 1))
        have g := go_is f ⟨d.nm, d.all, cutL a d.sl b⟩ a b (lk + 1) (gn + 1) ha (fun s hs => hlt s ((cutL_sub a d.sl b).subset hs)) hda.cut
        have hrc := rem_cut hid
        have hw := wrong_cut hid hl
        have hsz := cutL_len hid
        have hbl : b + 1 ≤ d.sl.length := Nat.le_trans hb (ofX_len d.sl a)
        have hkp := cutL_filter (fun s => liveE d.all s.2) a d.sl b id hid (by simpa using hl)
        have e1 := g.wrong
        have e2 := g.size
        simp only at e1 e2
        refine ⟨g.nm, g.all, g.keep.trans hkp, g.sub.trans (cutL_sub a d.sl b), by omega, by omega, by have := g.gone; omega, ⟨by have := g.lks.1; omega, by have := g.lks.2; omega⟩, fun h => ?_, fun h => ?_⟩
        · obtain ⟨k1, k2, k3, k4, k5⟩ := g.on h
          exact ⟨by omega, by omega, k3, k4, .inl (by simp only at k5; omega)⟩
        · obtain ⟨k1, k2, k3⟩ := g.fin h
          exact ⟨by omega, by omega, k3⟩
end Go.Proofs.Ytfpkeinknhijaaa
/- All, layer 19. -/
namespace Go.Proofs.Ytfpkeinknhijaaa
set_option linter.unusedVariables false
open Go.RowKit Go.Maps Go.Sort

def liveSl (d : Dx) : Dx := ⟨d.nm, d.all, d.sl.filter fun s => liveE d.all s.2⟩
/-- Of a whole round: between two steps. -/
structure Alls (d d' : Dx) (sm : Nat) : Prop where
  nm : d'.nm = d.nm
  all : d'.all = d.all
  keep : d'.sl.filter (fun s => liveE d.all s.2) = d.sl.filter (fun s => liveE d.all s.2)
  wrong : wrongX d.all d.sl = wrongX d.all d'.sl + sm
  size : d.sl.length = d'.sl.length + sm
theorem Alls.refl (d : Dx) : Alls d d 0 := ⟨rfl, rfl, rfl, rfl, rfl⟩
theorem Alls.step {d d' : Dx} {sm : Nat} (h : Alls d d' sm) {n i f : Nat} {r : Sst} (g : GoIs d' n i 0 0 f r) : Alls d r.d (sm + r.gn) := by
  have e1 := g.keep
  have e2 := g.wrong
  have e3 := g.size
  rw [h.all] at e1 e2
  exact ⟨g.nm.trans h.nm, g.all.trans h.all, e1.trans h.keep, by have := h.wrong; omega, by have := h.size; omega⟩
theorem Alls.end_ {d d' : Dx} {sm : Nat} (h : Alls d d' sm) (hl : ∀ s ∈ d'.sl, liveE d.all s.2 = true) : d' = liveSl d ∧ sm = wrongX d.all d.sl := by
  have e : d'.sl = d.sl.filter (fun s => liveE d.all s.2) := by rw [← h.keep]; exact (List.filter_eq_self.2 hl).symm
  have hw : wrongX d.all d'.sl = 0 := by
    unfold wrongX
    rw [List.countP_eq_zero]
    intro s hs
    simp [hl s hs]
  refine ⟨?_, by have := h.wrong; omega⟩
  obtain ⟨a, b, c⟩ := d'
  have h1 := h.nm
  have h2 := h.all
  simp only at h1 h2 e
  rw [h1, h2, e]
  rfl
def AllP (V w : World) (S : Nat → Prop) (x : Nat) (most seed R : Int) (nn : Nat) (d : Dx) (e : Ending) (w' : World) : Prop :=
  e = .returned (.tuple #[.int .i64 (wrongX d.all d.sl : Int), .int .i64 0]) ∧ Kr V w' S x most seed R (nn + d.sl.length + 64) (liveSl d) ∧ Only (fun g => ¬ S g ∧ V.heap.size ≤ g) w w'
set_option maxHeartbeats 4000000 in
set_option maxRecDepth 100000 in
theorem swall_any {V w : World} {S : Nat → Prop} {x : Nat} {most seed R : Int} {nn : Nat} {d : Dx} (k : Kr V w S x most seed R nn d) (hm : nn ≤ 40000) :
    Calls Try.prog 50 #[.pointer (some ⟨x, 0, none⟩)] w (AllP V w S x most seed R nn d) := by
  have hal : Below w.heap.size w (w.alloc (.cells (swCs 0 0 0) 102)) := (Below.refl _ _).alloc (Nat.le_refl _) _
  have HK := Lib.hid (k.keep hal (S' := fun g => S g ∨ g = w.heap.size) (fun g hg => hg.imp (fun h => h) (fun h => ⟨by omega, by simp; omega⟩)))
  have HSW : Hid (Swp (w.alloc (.cells (swCs 0 0 0) 102)) w.heap.size 0 0 0) := Blk.new _ _ _
  have HV : Hid (V.heap.size ≤ w.heap.size ∧ d.sl.length ≤ nn ∧ most ≤ 65536 ∧ ∀ s ∈ d.sl, s.1 < 65536) := ⟨k.bel.size, k.facts.2.1, k.facts.2.2.2.2.1, fun s hs => by have := k.facts.1.nlt s hs; have := k.facts.2.2.2.2.1; omega⟩
  have HO : Hid (Only (SwpO V S w.heap.size) w (w.alloc (.cells (swCs 0 0 0) 102))) := Only.of_below hal _
  have HSz : Hid (∀ g, S g → g < w.heap.size) := fun g hg => by obtain ⟨_, _, _, _, h3, _⟩ := k; exact h3 g hg
  obtain ⟨A, hA⟩ : ∃ A, w.heap.size = A := ⟨_, rfl⟩
  have HA := Lib.hid hA
  rw [hA] at HK HSW HV HO HSz
  clear k hal
  go_enter Try.func50, Try.ntmps50
  go_wp2_with (go_at_call 34; refine (swnew_any _).mono ?_; rintro e w1 ⟨rfl, rfl⟩)
  try rw [hA]
  clear hA
  generalize w.alloc (.cells (swCs 0 0 0) 102) = W1 at *
  go_wp2_with fail
  go_loopg [5] (d.sl.length + 1) (fun r s5 wr => ∃ (sm n' i' rd u : Nat) (d' : Dx), s5 = .int .i64 (sm : Int) ∧ Alls d d' sm ∧ Kr V wr (fun g => S g ∨ g = A) x most seed R (nn + u) d' ∧ Swp wr A n' i' rd ∧ Only (SwpO V S A) w wr ∧ n' < 65536 ∧ i' ≤ 100001 ∧ ((rd = 0 ∧ r = remX d' n' i' + 1 ∧ u + remX d' n' i' ≤ d.sl.length ∧ DoneX d' n' i') ∨ (rd = 1 ∧ r = 0 ∧ u ≤ d.sl.length + 64 ∧ ∀ s ∈ d'.sl, liveE d.all s.2 = true)))
  case atStart => exact ⟨0, 0, 0, 0, 0, d, rfl, Alls.refl d, HK.out, HSW.out, HO.out, by decide, by decide, .inl ⟨rfl, by rw [remX_start], by rw [remX_start]; omega, DoneX.start d⟩⟩
  case round =>
    clear HK HSW HO
    obtain ⟨sm, n', i', rd, u, d', rfl, hal, hk, hsw, ho, hn, hi, hc⟩ := hrel
    have HAL := Lib.hid hal
    have HK := Lib.hid hk
    have HSW := Lib.hid hsw
    have HO := Lib.hid ho
    obtain ⟨c0, c1, c2⟩ := Swp.cells hsw
    clear hal hk hsw ho
    rcases hc with ⟨rfl, hr, hu, hdn⟩ | ⟨rfl, hr, hu, hlv⟩
    · have hlt : ∀ s ∈ d'.sl, s.1 < 65536 := fun s hs => by have := HK.out.facts.1.nlt s hs; have := HV.out.2.2.1; omega
      have hg := go_is 64 d' n' i' 0 0 hn hlt hdn
      have hun : u + 64 ≤ 100000 - nn := by have := HV.out.2.1; omega
      have HST := Lib.hid (swstep_any HK.out HSW.out (.inr rfl) HV.out.1 64 (by omega) hn hi (by decide))
      obtain ⟨r, hrr⟩ : ∃ r, swGo 64 d' n' i' 0 0 = r := ⟨_, rfl⟩
      rw [hrr] at hg HST
      have HG := Lib.hid hg
      have HR := Lib.hid hr
      have HU := Lib.hid hu
      have hdl : d'.sl.length ≤ 40000 := by have := HAL.out.size; have := HV.out.2.1; omega
      clear hg hrr hr hu hdn hlt
      go_wp2_with (go_at_call 45; refine HST.out.mono ?_; rintro e w2 ⟨rfl, k2, s2, o2⟩)
      have hA2 := HAL.out.step HG.out
      have hO2 := HO.out.trans o2 (fun g hg => by
        rcases hg with h | h
        · exact .inl (.inl h)
        · exact .inl (.inr ⟨fun hs => h.1 (.inl hs), h.2⟩))
      have hlks := HG.out.gone
      have HWR : Hid (wrap64 ((sm : Int) + (r.gn : Int)) = (sm : Int) + (r.gn : Int)) := IntWalk.wrap64_in _ (by have := HG.out.lks.2; have := hA2.size; have := HV.out.2.1; omega)

      clear HST
      cases hf : r.fin with
      | false =>
        obtain ⟨j1, j2, j3, j4, j5⟩ := HG.out.on hf
        rw [hf] at s2
        go_roundg (remX r.d r.n r.i + 1)
        case measure => have := HR.out; omega
        case rel => exact ⟨sm + r.gn, r.n, r.i, 0, u + 64, r.d, by rw [HWR.out]; go_num, hA2, k2, s2, hO2, j4, by omega, .inl ⟨rfl, rfl, by have := HU.out; omega, j3⟩⟩
      | true =>
        obtain ⟨j1, j2, j3, j4, j5⟩ := HG.out.fin hf
        rw [hf] at s2
        go_roundg 0
        case measure => have := HR.out; omega
        case rel => exact ⟨sm + r.gn, r.n, r.i, 1, u + 64, r.d, by rw [HWR.out]; go_num, hA2, k2, s2, hO2, by omega, by omega, .inr ⟨rfl, rfl, by have := HU.out; omega, fun s hs => by rw [← HAL.out.all]; exact j3 s hs⟩⟩
    · obtain ⟨he1, he2⟩ := HAL.out.end_ hlv
      go_wp2_with fail
      go_ret2
      refine ⟨by rw [← he2]; rfl, ?_, HO.out.more (fun g hg => ?_)⟩
      · rw [← he1]
        exact ((HK.out.mono (Int.le_refl _) (by omega)).less_ (fun g h => .inl h))
      · rcases hg with h | h
        · exact .inr (by rw [h, ← HA.out]; exact Nat.le_refl _)
        · exact .inl h
end Go.Proofs.Ytfpkeinknhijaaa
namespace Go.Proofs.Ytfpkeinknhijaaa
set_option linter.unusedVariables false

theorem there_of_rem {d : Dx} {n i : Nat} (h : remX d n i = 0) : thereX d n i = none := by
  cases ht : thereX d n i with
  | none => rfl
  | some ab =>
    obtain ⟨a, b⟩ := ab
    obtain ⟨h1, h2⟩ := there_rem ht
    rw [h] at h1
    unfold remX at h1
    omega
theorem all_of_rem {d : Dx} {n i : Nat} (hd : DoneX d n i) (h : remX d n i = 0) : ∀ s ∈ d.sl, liveE d.all s.2 = true := by
  have hl : (ofX d.sl n).length ≤ i := by unfold remX at h; omega
  have hc : d.sl.countP (fun s => decide (n < s.1)) = 0 := by unfold remX at h; omega
  intro s hs
  refine hd.all_ hl hs ?_
  have := List.countP_eq_zero.1 hc s hs
  simpa using this
/-- Between two steps of a round that goes on. -/
structure Szs (d0 d : Dx) (out n i looked many : Nat) : Prop where
  al : Alls d0 d out
  dn : DoneX d n i
  rem : looked + remX d n i = many
  n64 : n < 65536
  ilt : i ≤ d0.sl.length
theorem Szs.start (d : Dx) : Szs d d 0 0 0 0 d.sl.length := ⟨Alls.refl d, DoneX.start d, by rw [remX_start, Nat.zero_add], by decide, Nat.zero_le _⟩
theorem Szs.step {d0 d : Dx} {out n i looked many : Nat} (h : Szs d0 d out n i looked many) (hlt : ∀ s ∈ d.sl, s.1 < 65536) (f : Nat) (hf : looked + f ≤ many) {r : Sst} (hr : swGo f d n i 0 0 = r) :
    r.fin = false ∧ r.lk = f ∧ r.gn ≤ f ∧ Szs d0 r.d (out + r.gn) r.n r.i (looked + f) many := by
  have g := go_is f d n i 0 0 h.n64 hlt h.dn
  rw [hr] at g
  have hrem := h.rem
  have hfin : r.fin = false := by
    cases he : r.fin with
    | false => rfl
    | true =>
      have := (g.fin he).2.1
      omega
  obtain ⟨k1, k2, k3, k4, k5⟩ := g.on hfin
  have hsz := h.al.size
  have hgone := g.gone
  refine ⟨hfin, by omega, by omega, h.al.step g, k3, by omega, k4, ?_⟩
  have := h.ilt
  omega
theorem Szs.end_ {d0 d : Dx} {out n i many : Nat} (h : Szs d0 d out n i many many) : out = wrongX d0.all d0.sl ∧ d = liveSl d0 ∧ wrongX d.all d.sl = 0 ∧ d.sl.length + wrongX d0.all d0.sl = d0.sl.length ∧ thereX d n i = none := by
  have hr : remX d n i = 0 := by have := h.rem; omega
  have hl := all_of_rem h.dn hr
  have hl' := hl
  rw [h.al.all] at hl'
  obtain ⟨e1, e2⟩ := h.al.end_ hl'
  refine ⟨e2, e1, ?_, ?_, there_of_rem hr⟩
  · unfold wrongX
    rw [List.countP_eq_zero]
    intro s hs
    simp [hl s hs]
  · have := h.al.size
    omega
/-- Two indexes with the same entries, and the same slots of live ones. -/
def Eql (d e : Dx) : Prop := Eqx d e ∧ liveSl d = liveSl e
theorem Eql.refl (d : Dx) : Eql d d := ⟨⟨rfl, rfl⟩, rfl⟩
theorem liveSl_sl {d e : Dx} (h : liveSl d = liveSl e) : d.sl.filter (fun s => liveE d.all s.2) = e.sl.filter (fun s => liveE e.all s.2) := congrArg Dx.sl h
theorem liveSl_of {d e : Dx} (h : Eqx d e) (hs : d.sl.filter (fun s => liveE d.all s.2) = e.sl.filter (fun s => liveE d.all s.2)) : liveSl d = liveSl e := by
  obtain ⟨h1, h2⟩ := h
  unfold liveSl
  rw [h1, hs, h2]
theorem Iw.live_new {most R : Int} {d : Dx} (h : Iw most R d) {id : Nat} (hid : lastE d.all < id) (ts : List (List UInt8)) (ns : List Nat) : d.sl.filter (fun s => liveE (d.all ++ [⟨id, ts, ns, true⟩]) s.2) = d.sl.filter (fun s => liveE d.all s.2) := by
  refine List.filter_congr fun s hs => ?_
  obtain ⟨e, he, e2⟩ := h.sl1 s hs
  have h1 := last_le h.ids he
  rw [liveE_snoc rfl]
  have e3 : (id == s.2) = false := by simp; omega
  show (liveE d.all s.2 || id == s.2) = _
  rw [e3, Bool.or_false]
theorem Eql.add {most R : Int} {d e : Dx} (h : Eql d e) (hd : Iw most R d) (he : Iw most R e) (id : Nat) (ts : List (List UInt8)) : (d.add most id ts).2 = (e.add most id ts).2 ∧ Eql (d.add most id ts).1 (e.add most id ts).1 := by
  obtain ⟨a1, a2⟩ := h.1.add most id ts
  refine ⟨a1, a2, liveSl_of a2 ?_⟩
  have hs := liveSl_sl h.2
  have hall : d.all = e.all := h.1.2
  have hnm : d.nm = e.nm := h.1.1
  clear a1 a2
  by_cases h1 : id ≤ lastE d.all ∨ tagsB ts = false
  · have h2 := h1
    rw [hall] at h2
    have e1 : d.add most id ts = (d, [], 2) := by unfold Dx.add; rw [if_pos h1]
    have e2 : e.add most id ts = (e, [], 2) := by unfold Dx.add; rw [if_pos h2]
    rw [e1, e2]
    show d.sl.filter (fun s => liveE d.all s.2) = e.sl.filter (fun s => liveE d.all s.2)
    rw [hs, hall]
  · have h2 := h1
    rw [hall] at h2
    by_cases h3 : (addsM most d.nm ts).2.2 = 0
    · have h4 := h3
      rw [hnm] at h4
      have e1 : d.add most id ts = (⟨(addsM most d.nm ts).1, d.all ++ [⟨id, ts, (addsM most d.nm ts).2.1, true⟩], d.sl ++ (addsM most d.nm ts).2.1.map (fun n => (n, id))⟩, (addsM most d.nm ts).2.1, 0) := by unfold Dx.add; rw [if_neg h1, if_pos h3]
      have e2 : e.add most id ts = (⟨(addsM most e.nm ts).1, e.all ++ [⟨id, ts, (addsM most e.nm ts).2.1, true⟩], e.sl ++ (addsM most e.nm ts).2.1.map (fun n => (n, id))⟩, (addsM most e.nm ts).2.1, 0) := by unfold Dx.add; rw [if_neg h2, if_pos h4]
      rw [e1, e2]
      show (d.sl ++ _).filter (fun s => liveE (d.all ++ _) s.2) = (e.sl ++ _).filter (fun s => liveE (d.all ++ _) s.2)
      rw [not_or] at h1 h2
      have hne := he.live_new (id := id) (by omega) ts (addsM most e.nm ts).2.1
      rw [List.filter_append, List.filter_append, hd.live_new (by omega), hs, hnm, hall, hne]
    · have h4 := h3
      rw [hnm] at h4
      have e1 : (d.add most id ts).1 = d := by unfold Dx.add; rw [if_neg h1, if_neg h3]
      have e2 : (e.add most id ts).1 = e := by unfold Dx.add; rw [if_neg h2, if_neg h4]
      rw [e1, e2]
      rw [hs, hall]
theorem Eql.drop {d e : Dx} (h : Eql d e) (id : Nat) : (d.drop id).2 = (e.drop id).2 ∧ Eql (d.drop id).1 (e.drop id).1 := by
  obtain ⟨a1, a2⟩ := h.1.drop id
  refine ⟨a1, a2, liveSl_of a2 ?_⟩
  have hs := liveSl_sl h.2
  have hall : d.all = e.all := h.1.2
  clear a1 a2
  have key : ∀ A : List (Nat × Nat), A.filter (fun s => liveE (d.all.map (deadE id)) s.2) = (A.filter (fun s => liveE d.all s.2)).filter (fun s => !(s.2 == id)) := fun A => by
    rw [List.filter_filter]
    refine List.filter_congr fun s _ => ?_
    rw [liveE_dead, Bool.and_comm]
  have hg : getE d.all id = getE e.all id := by rw [hall]
  cases hc : getE d.all id with
  | none =>
    have hc2 := hc
    rw [hg] at hc2
    have e1 : (d.drop id).1 = d := by unfold Dx.drop; rw [hc]
    have e2 : (e.drop id).1 = e := by unfold Dx.drop; rw [hc2]
    rw [e1, e2, hs, hall]
  | some x =>
    have hc2 := hc
    rw [hg] at hc2
    have e1 : (d.drop id).1 = ⟨(relsM d.nm x.nums).1, d.all.map (deadE id), d.sl⟩ := by unfold Dx.drop; rw [hc]
    have e2 : (e.drop id).1 = ⟨(relsM e.nm x.nums).1, e.all.map (deadE id), e.sl⟩ := by unfold Dx.drop; rw [hc2]
    rw [e1, e2]
    show d.sl.filter (fun s => liveE (d.all.map (deadE id)) s.2) = e.sl.filter (fun s => liveE (d.all.map (deadE id)) s.2)
    rw [key, key, hs, hall]
/-- Steps on the first one. -/
theorem Eql.go {d e d' : Dx} (h : Eql d e) (h1 : d'.nm = d.nm) (h2 : d'.all = d.all) (h3 : d'.sl.filter (fun s => liveE d.all s.2) = d.sl.filter (fun s => liveE d.all s.2)) : Eql d' e := by
  have hx : Eqx d' e := ⟨h1.trans h.1.1, h2.trans h.1.2⟩
  refine ⟨hx, liveSl_of hx ?_⟩
  rw [h2, h3, liveSl_sl h.2, h.1.2]
theorem liveSl_done {d : Dx} (h : ∀ s ∈ d.sl, liveE d.all s.2 = true) : liveSl d = d := by
  unfold liveSl
  rw [List.filter_eq_self.2 h]
theorem liveSl_live (d : Dx) : ∀ s ∈ (liveSl d).sl, liveE (liveSl d).all s.2 = true := fun s hs => (List.mem_filter.1 hs).2
theorem wrong_live (d : Dx) : wrongX (liveSl d).all (liveSl d).sl = 0 := by
  unfold wrongX
  rw [List.countP_eq_zero]
  intro s hs
  simp [liveSl_live d s hs]
/-- What a name has, of an index without wrong slots. -/
theorem Iw.right_all {most R : Int} {d : Dx} (h : Iw most R d) (hl : ∀ s ∈ d.sl, liveE d.all s.2 = true) {n : Nat} (hn : liveB d.nm n = true) : ofX d.sl n = rightX d.all (nmAt d.nm n).1 := by
  rw [← h.right hn]
  refine (List.filter_eq_self.2 fun k hk => ?_).symm
  exact hl (n, k) (ofX_mem.1 hk)
/-- What steps do, wherever they begin. -/
structure GoIs0 (d : Dx) (n i lk gn f : Nat) (r : Sst) : Prop where
  nm : r.d.nm = d.nm
  all : r.d.all = d.all
  keep : r.d.sl.filter (fun s => liveE d.all s.2) = d.sl.filter (fun s => liveE d.all s.2)
  wrong : wrongX d.all d.sl + gn = wrongX d.all r.d.sl + r.gn
  size : d.sl.length + gn = r.d.sl.length + r.gn
  lks : lk ≤ r.lk ∧ r.lk ≤ lk + f
  n64 : r.n < 65536
  ib : r.i ≤ d.sl.length ∨ r.i ≤ i
theorem go_is0 : ∀ (f : Nat) (d : Dx) (n i lk gn : Nat), n < 65536 → (∀ s ∈ d.sl, s.1 < 65536) → GoIs0 d n i lk gn f (swGo f d n i lk gn)
  | 0, d, n, i, lk, gn, hn, hlt => by
    rw [swGo]
    exact ⟨rfl, rfl, rfl, rfl, rfl, ⟨Nat.le_refl _, Nat.le_refl _⟩, hn, .inr (Nat.le_refl _)⟩
  | f + 1, d, n, i, lk, gn, hn, hlt => by
    cases ht : thereX d n i with
    | none =>
      rw [swGo_end ht]
      exact ⟨rfl, rfl, rfl, rfl, rfl, ⟨Nat.le_refl _, Nat.le_add_right _ _⟩, Nat.zero_lt_succ 65535, .inl (Nat.zero_le _)⟩
    | some ab =>
      obtain ⟨a, b⟩ := ab
      obtain ⟨hr, hb⟩ := there_rem ht
      obtain ⟨id, hid⟩ : ∃ id, (ofX d.sl a)[b]? = some id := ⟨_, List.getElem?_eq_getElem hb⟩
      have ha : a < 65536 := by
        have hm := List.mem_of_getElem? hid
        exact hlt _ (ofX_mem.1 hm)
      have hcut := cut_at ha hid
      have hbl : b + 1 ≤ d.sl.length := Nat.le_trans hb (ofX_len d.sl a)
      by_cases hl : liveE d.all id = true
      · rw [if_pos hl] at hcut
        rw [swGo_next ht (by rw [hcut])]
        have g := go_is0 f d a (b + 1) (lk + 1) gn ha hlt
        exact ⟨g.nm, g.all, g.keep, g.wrong, g.size, ⟨by have := g.lks.1; omega, by have := g.lks.2; omega⟩, g.n64, .inl (by have := g.ib; omega)⟩
      · rw [if_neg hl] at hcut
        rw [swGo_cut ht (by rw [hcut]), hcut]
        show GoIs0 d n i lk gn (f + 1) (swGo f ⟨d.nm, d.all, cutL a d.sl b⟩ a b (lk + 1) (gn + 1))
        have g := go_is0 f ⟨d.nm, d.all, cutL a d.sl b⟩ a b (lk + 1) (gn + 1) ha (fun s hs => hlt s ((cutL_sub a d.sl b).subset hs))
        have hw := wrong_cut hid hl
        have hsz := cutL_len hid
        have hkp := cutL_filter (fun s => liveE d.all s.2) a d.sl b id hid (by simpa using hl)
        have e1 := g.wrong
        have e2 := g.size
        have e3 := g.ib
        simp only at e1 e2 e3
        exact ⟨g.nm, g.all, g.keep.trans hkp, by omega, by omega, ⟨by have := g.lks.1; omega, by have := g.lks.2; omega⟩, g.n64, .inl (by omega)⟩
end Go.Proofs.Ytfpkeinknhijaaa
