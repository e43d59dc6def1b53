/- The document's index: Add that is refused. -/
import Derived.Test.YtfpkeinknhijaaaGreatDixC
import Derived.Test.YtfpkeinknhijaaaGreatDixT
namespace Go.Proofs.YtfpkeinknhijaaaGreat
set_option linter.unusedVariables false
open Go.RowKit Go.Maps Go.Sort

def AddR (w : World) (P : Nat → Prop) (most : Int) (r : Dx × List Nat × Int) (e : Ending) (w' : World) : Prop :=
  ∃ a' q c, e = .returned (.tuple #[dixV most r.1 a', .slice q r.2.1.length c, .int .i64 r.2.2]) ∧ RowS w' (Nw w w' P) q r.2.1.length c (numsV r.2.1) ∧ Dix w' (Nw w w' P) r.1 a' ∧ Below w.heap.size w w'
theorem lastE_at {A : List En} {m : Nat} {e : En} (hl : A.length = m + 1) (he : A[m]? = some e) : lastE A = e.id := by
  unfold lastE
  rw [List.getLast?_eq_getElem?, hl, Nat.add_sub_cancel, he]
theorem lastE_nil {A : List En} (hl : A.length = 0) : lastE A = 0 := by
  rw [List.eq_nil_of_length_eq_zero hl]
  rfl
set_option maxHeartbeats 8000000 in
set_option maxRecDepth 100000 in
theorem xadd_bad {w : World} {P : Nat → Prop} {d : Dx} {a : Dp} (h : Dix w P d a) (hP : ∀ g, P g → g < w.heap.size) (most : Int) (hl : d.all.length ≤ 1000000) (id : Nat) (hid : id ≤ 18446744073709551615) (v : Value) (ts : List (List UInt8)) (hv : Reads w v (ts.map encStr)) (ht : ts.length ≤ 1000000) (hbad : id ≤ lastE d.all ∨ tagsB ts = false) :
    Calls Tryz.prog 9 #[dixV most d a, .int .u64 (id : Int), v] w (AddR w P most (d, [], 2)) := by
  have HBW : Hid (Below w.heap.size w ((w.alloc (.cells (dixCs most d a) 35)).alloc (.cells zeroX 35))) := ((Below.refl _ _).alloc (Nat.le_refl _) _).alloc (by simp) _
  have hbx := Blk.alloc (Blk.new w 35 (dixCs most d a)) (.cells zeroX 35)
  have hbr := Blk.new (w.alloc (.cells (dixCs most d a) 35)) 35 zeroX
  rw [show (w.alloc (.cells (dixCs most d a) 35)).heap.size = w.heap.size + 1 by simp] at hbr
  have H := Lib.hid (h.below HBW.out)
  have HBR := Lib.hid hbr
  have HBX := Lib.hid hbx
  have HPP := Lib.hid hP
  obtain ⟨M, hM⟩ : ∃ M, d.all.length = M := ⟨_, rfl⟩
  have HM := Lib.hid hM
  rw [hM] at hl
  have hv0 := hv
  obtain ⟨pv, cv, rfl, -, -⟩ := hv0
  rw [List.length_map] at hv ⊢
  have HV := Lib.hid (hv.below HBW.out)
  clear h hbx hbr hP hM hv
  have HFIN : Hid (∀ W2 : World, Below ((w.alloc (.cells (dixCs most d a) 35)).alloc (.cells zeroX 35)).heap.size ((w.alloc (.cells (dixCs most d a) 35)).alloc (.cells zeroX 35)) W2 → AddR w P most (d, [], 2) (.returned (.tuple #[dixV most d a, .slice none 0 0, .int .i64 2])) (putX W2 (w.heap.size + 1) most d a)) := fun W2 hb => by
    have ho := putX_only (w := W2) (R := w.heap.size + 1) most d a
    have hBW2 := HBW.out.trans (hb.mono HBW.out.size)
    exact ⟨a, none, 0, rfl, .inl rfl, ((H.out.below hb).only ho (fun g hg he => by have := HPP.out g hg; omega)).more (fun g hg => .inl hg), hBW2.trans (ho.below (fun g hg => by omega) hBW2.size)⟩
  go_enter Tryz.func9, Tryz.ntmps9
  have d0 := Blk.cell HBX.out 0
  have d1 := Blk.cell HBX.out 1
  have d2 := Blk.cell HBX.out 2
  have d3 := Blk.cell HBX.out 3
  simp only [List.getElem?_toArray, List.getElem?_cons_zero, List.getElem?_cons_succ] at d0 d1 d2 d3
  rw [HM.out] at d2
  go_upto_region 1 with (fail)
  clear d0 d1 d2 d3
  generalize (w.alloc (.cells (dixCs most d a) 35)).alloc (.cells zeroX 35) = W at *
  have d0 := Blk.cell HBX.out 0
  have d1 := Blk.cell HBX.out 1
  have d2 := Blk.cell HBX.out 2
  have d3 := Blk.cell HBX.out 3
  have e0 := Blk.cell HBR.out 0
  have e1 := Blk.cell HBR.out 1
  have e2 := Blk.cell HBR.out 2
  have e3 := Blk.cell HBR.out 3
  have f0 := Blk.frozen HBR.out 0
  have f1 := Blk.frozen HBR.out 1
  have f2 := Blk.frozen HBR.out 2
  have f3 := Blk.frozen HBR.out 3
  simp only [List.getElem?_toArray, List.getElem?_cons_zero, List.getElem?_cons_succ] at d0 d1 d2 d3 e0 e1 e2 e3
  rw [HM.out] at d2
  by_cases h0 : id = 0
  · subst h0
    go_wp2_with fail
    have hz := putX_blk HBR.out most d a
    have z0 := Blk.cell hz 0
    have z1 := Blk.cell hz 1
    have z2 := Blk.cell hz 2
    have z3 := Blk.cell hz 3
    have hfin := HFIN.out W (Below.refl _ _)
    have hMM := HM.out
    simp only [putX, List.getElem?_toArray, List.getElem?_cons_zero, List.getElem?_cons_succ] at z0 z1 z2 z3 hfin
    rw [hMM] at z0 z1 z2 z3
    exact bodyPost_ret (v := .tuple #[dixV most d a, .slice none 0 0, .int .i64 2]) (by simp [results, Tryz.results9, go_sem, z0, z1, z2, z3, hMM]) rfl (by simpa [hMM] using hfin)
  · have h0' : ¬ (id : Int) = 0 := by omega
    have h0b : ((id : Int) == 0) = false := by simpa using h0
    rcases Nat.eq_zero_or_pos M with hM0 | hM0
    · subst hM0
      have hb2 : tagsB ts = false := by
        rcases hbad with h1 | h1
        · rw [lastE_nil HM.out] at h1; omega
        · exact h1
      have HT := xtags_any _ ts W HV.out ht
      rw [hb2] at HT
      have HTT := Lib.hid HT
      clear HT
      go_wp2_with (go_at_call 39; refine HTT.out.mono ?_; rintro e9 w9 ⟨rfl, b9⟩; have HBX9 := Lib.hid (Blk.below HBX.out b9 (Blk.lt HBX.out)); have HBR9 := Lib.hid (Blk.below HBR.out b9 (Blk.lt HBR.out)); have d0 := Blk.cell HBX9.out 0; have d1 := Blk.cell HBX9.out 1; have d2 := Blk.cell HBX9.out 2; have d3 := Blk.cell HBX9.out 3; have e0 := Blk.cell HBR9.out 0; have e1 := Blk.cell HBR9.out 1; have e2 := Blk.cell HBR9.out 2; have e3 := Blk.cell HBR9.out 3; have f0 := Blk.frozen HBR9.out 0; have f1 := Blk.frozen HBR9.out 1; have f2 := Blk.frozen HBR9.out 2; have f3 := Blk.frozen HBR9.out 3; simp only [List.getElem?_toArray, List.getElem?_cons_zero, List.getElem?_cons_succ] at d0 d1 d2 d3 e0 e1 e2 e3; rw [HM.out] at d2)
      have hz := putX_blk HBR9.out most d a
      have z0 := Blk.cell hz 0
      have z1 := Blk.cell hz 1
      have z2 := Blk.cell hz 2
      have z3 := Blk.cell hz 3
      have hfin := HFIN.out w9 b9
      have hMM := HM.out
      simp only [putX, List.getElem?_toArray, List.getElem?_cons_zero, List.getElem?_cons_succ] at z0 z1 z2 z3 hfin
      rw [hMM] at z0 z1 z2 z3
      exact bodyPost_ret (v := .tuple #[dixV most d a, .slice none 0 0, .int .i64 2]) (by simp [results, Tryz.results9, go_sem, z0, z1, z2, z3, hMM]) rfl (by simpa [hMM] using hfin)
    · obtain ⟨m, rfl⟩ : ∃ m, M = m + 1 := ⟨M - 1, by omega⟩
      obtain ⟨en, hen⟩ : ∃ en, d.all[m]? = some en := ⟨_, List.getElem?_eq_getElem (by rw [HM.out]; omega)⟩
      obtain ⟨c, hc⟩ := H.out.ec hen
      obtain ⟨gA, hp, hg, -, -, hcell⟩ := H.out.all.at_ (by rw [HM.out]; omega)
      have n0 := hcell (m * 4 + 0) _ ((ens_get hen hc 0 (by decide)).trans rfl)
      have hle := lastE_at HM.out hen
      rw [hle] at hbad
      rw [hp] at d2
      simp only [Nat.add_zero] at n0
      have HP2 := Lib.hid hp
      have hm1 : ((m + 1 : Nat) : Int) - 1 = (m : Int) := by omega
      have hm2 : (0 : Int) < ((m + 1 : Nat) : Int) := by omega
      have hm3 : (0 : Int) < (m : Int) + 1 := by omega
      obtain ⟨ei, hei⟩ : ∃ ei, en.id = ei := ⟨_, rfl⟩
      rw [hei] at n0 hbad
      clear hcell hc hen hle hei hp hg
      by_cases hge : id ≤ ei
      · have hge' : (ei : Int) ≥ (id : Int) := by omega
        go_wp2_with fail
        have hz := putX_blk HBR.out most d a
        have z0 := Blk.cell hz 0
        have z1 := Blk.cell hz 1
        have z2 := Blk.cell hz 2
        have z3 := Blk.cell hz 3
        have hfin := HFIN.out W (Below.refl _ _)
        have hMM := HM.out
        have hpp := HP2.out
        simp only [putX, List.getElem?_toArray, List.getElem?_cons_zero, List.getElem?_cons_succ] at z0 z1 z2 z3 hfin
        rw [hMM, hpp] at z0 z1 z2 z3
        exact bodyPost_ret (v := .tuple #[dixV most d a, .slice none 0 0, .int .i64 2]) (by simp [results, Tryz.results9, go_sem, z0, z1, z2, z3, hMM, hpp]) rfl (by simpa [hMM, hpp] using hfin)
      · have hge' : ¬ (ei : Int) ≥ (id : Int) := by omega
        have hb2 : tagsB ts = false := hbad.resolve_left (by omega)
        have HT := xtags_any _ ts W HV.out ht
        rw [hb2] at HT
        have HTT := Lib.hid HT
        clear HT
        go_wp2_with (go_at_call 39; refine HTT.out.mono ?_; rintro e9 w9 ⟨rfl, b9⟩; have HBX9 := Lib.hid (Blk.below HBX.out b9 (Blk.lt HBX.out)); have HBR9 := Lib.hid (Blk.below HBR.out b9 (Blk.lt HBR.out)); have d0 := Blk.cell HBX9.out 0; have d1 := Blk.cell HBX9.out 1; have d2 := Blk.cell HBX9.out 2; have d3 := Blk.cell HBX9.out 3; have e0 := Blk.cell HBR9.out 0; have e1 := Blk.cell HBR9.out 1; have e2 := Blk.cell HBR9.out 2; have e3 := Blk.cell HBR9.out 3; have f0 := Blk.frozen HBR9.out 0; have f1 := Blk.frozen HBR9.out 1; have f2 := Blk.frozen HBR9.out 2; have f3 := Blk.frozen HBR9.out 3; simp only [List.getElem?_toArray, List.getElem?_cons_zero, List.getElem?_cons_succ] at d0 d1 d2 d3 e0 e1 e2 e3; rw [HM.out] at d2)
        have hz := putX_blk HBR9.out most d a
        have z0 := Blk.cell hz 0
        have z1 := Blk.cell hz 1
        have z2 := Blk.cell hz 2
        have z3 := Blk.cell hz 3
        have hfin := HFIN.out w9 b9
        have hMM := HM.out
        simp only [putX, List.getElem?_toArray, List.getElem?_cons_zero, List.getElem?_cons_succ] at z0 z1 z2 z3 hfin
        rw [hMM] at z0 z1 z2 z3
        exact bodyPost_ret (v := .tuple #[dixV most d a, .slice none 0 0, .int .i64 2]) (by simp [results, Tryz.results9, go_sem, z0, z1, z2, z3, hMM]) rfl (by simpa [hMM] using hfin)
end Go.Proofs.YtfpkeinknhijaaaGreat
