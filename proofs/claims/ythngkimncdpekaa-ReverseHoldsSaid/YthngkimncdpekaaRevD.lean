/- An index of entries: Right, Next, Cut. -/
import Derived.Test.YthngkimncdpekaaRevC
namespace Go.Proofs.Ythngkimncdpekaa
set_option linter.unusedVariables false
open Go.RowKit Go.Maps Go.Sort

theorem clos_eg : ∀ args w, Sem.run Try.prog (callFunc 78 args) w = .ok (.enter 78 args) w := enters_of Try.func78 (by kernel_rfl) rfl
section
variable {w : World} {x tb lb sb : Nat} {most seed R : Int} {n : Nat} {own : Nat → Option Nat} {Rd : Nat → Prop} {lm : List (Nat × (Slc × Slc))} {sm : List (Nat × Slc)} {l0 : Nms} {d : Dx}
set_option maxHeartbeats 1000000 in
set_option maxRecDepth 100000 in
theorem clos_any (h : Ry w x tb lb sb most seed R n own Rd lm sm l0 d) {X : Nat} (hX : w.cell? ⟨X, 0, none⟩ = some (.pointer (some ⟨x, 0, none⟩))) (id : Nat) (hid : id ≤ 18446744073709551615) :
    Calls Try.prog 78 #[.int .u64 (id : Int), .pointer (some ⟨X, 0, none⟩)] w fun e w' => e = .returned (.bool (!liveE d.all id)) ∧ Below w.heap.size w w' := by
  have HF := Lib.hid (rvlive_any h id hid)
  generalize liveE d.all id = c at *
  clear h
  go_enter Try.func78, Try.ntmps78
  go_wp2_with (go_at_call 38; refine HF.out.mono ?_; rintro e w1 ⟨rfl, b1⟩)
  go_ret
  exact ⟨rfl, b1⟩
theorem Iw.right_bad (h : Iw most R d) {t : List UInt8} (hv : validB t = false) : rightX d.all t = [] := by
  rw [rightX_is (fun e he => (tagsB_is (h.len e he).2.2).2.2.2), List.map_eq_nil_iff, List.filter_eq_nil_iff]
  intro e he ht
  unfold hasT at ht
  rw [Bool.and_eq_true, List.contains_iff_mem] at ht
  have := (tagsB_is (h.len e he).2.2).1 t ht.2
  rw [hv] at this
  cases this
theorem Iw.ids64 (h : Ry w x tb lb sb most seed R n own Rd lm sm l0 d) {k u : Nat} (hu : u ∈ ofX d.sl k) : u ≤ 18446744073709551615 := by
  obtain ⟨e, he, e2⟩ := h.iw.sl1 _ (ofX_mem.1 hu)
  have e3 : e.id = u := e2
  rw [← e3]
  exact h.lb64 e he
set_option maxHeartbeats 2000000 in
set_option maxRecDepth 100000 in
theorem rvright_any (h : Ry w x tb lb sb most seed R n own Rd lm sm l0 d) (hn : n ≤ 100000) (s : ByteArray) (hs : s.size ≤ 140737488355328) :
    Calls Try.prog 43 #[.pointer (some ⟨x, 0, none⟩), .string s] w (NewRow w 29 (idsV (rightX d.all s.data.toList))) := by
  have HB0 : Hid (Below w.heap.size w (w.alloc (.cells #[.pointer (some ⟨x, 0, none⟩)] 25))) := (Below.refl _ _).alloc (Nat.le_refl _) _
  have h0 := h.below HB0.out
  have hX := (Blk.new w 25 #[.pointer (some ⟨x, 0, none⟩)]).cell 0
  have HF := rvfinds_any h0 s hs
  have hcase : (findM d.nm s.data.toList).2 = 0 ∧ (∃ k : Nat, findM d.nm s.data.toList = ((k : Int), 0) ∧ liveB d.nm k = true ∧ (nmAt d.nm k).1 = s.data.toList) ∨ ((findM d.nm s.data.toList).2 ≠ 0 ∧ rightX d.all s.data.toList = []) := by
    unfold findM
    cases hv : validB s.data.toList
    · right
      exact ⟨by simp, h.iw.right_bad hv⟩
    · rw [if_pos rfl]
      cases hf : findN d.nm s.data.toList with
      | none => exact .inr ⟨by simp, h.iw.right_none hf⟩
      | some k => exact .inl ⟨rfl, k, rfl, (findN_some hf).1, (findN_some hf).2⟩
  rcases hcase with ⟨_, k, hk, hlv, hnm⟩ | ⟨he, hr⟩
  · rw [hk] at HF
    have HF := Lib.hid HF
    have hright := h.iw.right hlv
    have hrne := h.iw.right_ne hlv
    rw [hnm] at hright hrne
    have hk2 : k < 65536 := by have := live_lt hlv; have := h.iw.wf.size; have := h.ms.2; omega
    rw [← hright] at hrne ⊢
    have hne : ofX d.sl k ≠ [] := fun e => hrne (by rw [e]; rfl)
    have hlen : (ofX d.sl k).length ≤ 1000000 := by have := ofX_len d.sl k; have := h.ln.1; omega
    have HIDS := Lib.hid (fun u (hu : u ∈ ofX d.sl k) => Iw.ids64 h hu)
    have HSLC := Lib.hid (fun W (hb : Below w.heap.size w W) => (h.below hb).slc k)
    have HLK := Lib.hid (fun W (hb : Below w.heap.size w W) => lookN (h.below hb).sv.mp hk2)
    have HCE := Lib.hid (fun W (hb : Below w.heap.size w W) => (h.below hb).cells)
    have HCL := Lib.hid (fun (W : World) X (hX : W.cell? ⟨X, 0, none⟩ = some (.pointer (some ⟨x, 0, none⟩))) (hb : Below w.heap.size w W) id hid => clos_any (h.below hb) hX id hid)
    have hpos : 0 < (ofX d.sl k).length := List.length_pos_iff.2 hne
    have HA : Hid (∀ u, (!!liveE d.all u) = liveE d.all u) := fun u => Bool.not_not _
    generalize hA : d.all = A at *
    generalize ofX d.sl k = L at *
    generalize mget slcZ sm k = z at *
    obtain ⟨p1, n1, k1⟩ := z
    clear h h0 hk hlv hright hrne hnm hne hA
    go_enter Try.func43, Try.ntmps43
    go_wp2_with fail
    refine HF.out.mono ?_
    rintro e w1 ⟨rfl, b1⟩
    have hb1 : Below w.heap.size w w1 := HB0.out.trans (b1.mono HB0.out.size)
    have hX1 := (b1.cell (p := ⟨w.heap.size, 0, none⟩) (by simp)).trans hX
    obtain ⟨d0, d1, d2, d3, d4, d5⟩ := HCE.out w1 hb1
    have hlk := HLK.out w1 hb1
    have HB1 := Lib.hid hb1
    have HX1 := Lib.hid hX1
    have HSZ : Hid (w.heap.size < w1.heap.size) := by have := b1.size; simp at this; exact this
    clear b1 hb1 hX
    go_wp2_with fail
    refine (cloneU_any _ L 0 w1 (HSLC.out w1 HB1.out) hlen).mono ?_
    rintro e w2 ⟨v, rfl, hv, b2⟩
    rw [List.length_map] at hv
    obtain ⟨g, cap, hvf, hg1, hg2⟩ := hv.form hpos
    subst hvf
    have HT : Hid (Tells w2 g 78 #[.pointer (some ⟨w.heap.size, 0, none⟩)] (fun u => !liveE A u) L) := by
      intro W ho u hu
      have hsz := HSZ.out
      have hbW : Below w.heap.size w W := (HB1.out.trans (b2.mono HB1.out.size)).trans (ho.below (fun z hz => by rw [hz]; omega) (Nat.le_trans HB1.out.size b2.size))
      have hXW : W.cell? ⟨w.heap.size, 0, none⟩ = some (.pointer (some ⟨x, 0, none⟩)) := by
        rw [World.cell?_of_block (w := w2) (a := ⟨w.heap.size, 0, none⟩) (ho.block w.heap.size (show w.heap.size < w2.heap.size by have := b2.size; omega) (show ¬ w.heap.size = g by omega))]
        exact (b2.cell (p := ⟨w.heap.size, 0, none⟩) hsz).trans HX1.out
      exact HCL.out W _ hXW hbW u (HIDS.out u hu)
    have HV := Lib.hid hv
    have HB2 := Lib.hid b2
    clear hv b2
    go_wp2_with fail
    refine (delf_any clos_eg HV.out hlen HT.out).mono ?_
    rintro e w3 ⟨rfl, h3, ho3⟩
    have HV3 := Lib.hid h3
    have HO3 := Lib.hid ho3
    simp only [Bool.not_not] at HV3 ⊢
    clear h3 ho3
    go_wp2_with fail
    go_ret
    have hb2 := HB1.out.trans (HB2.out.mono HB1.out.size)
    have hs1 := HB1.out.size
    exact ⟨_, rfl, by rw [List.length_map]; exact ownsRow_low HV3.out hs1, hb2.trans (HO3.out.below (fun z hz => by rw [hz]; omega) hb2.size)⟩
  · rw [hr]
    have hE : ((findM d.nm s.data.toList).2 != 0) = true := by simpa using he
    generalize findM d.nm s.data.toList = z at *
    obtain ⟨z1, z2⟩ := z
    have HF := Lib.hid HF
    clear h h0 hX hr he
    go_enter Try.func43, Try.ntmps43
    go_wp2_with (go_at_call 51; refine HF.out.mono ?_; rintro e w1 ⟨rfl, b1⟩)
    go_ret
    exact ⟨_, rfl, World.ownsRow_nil _ _ _ _, HB0.out.trans (b1.mono HB0.out.size)⟩
/-- What Next says. -/
def nextI (S : List (Nat × Nat)) (t : Int) : Int × Int := if numB t = true then (match nextX S t.toNat with | some n => ((n : Int), 0) | none => (0, 9)) else (0, 2)
set_option maxHeartbeats 2000000 in
set_option maxRecDepth 100000 in
theorem rvnext_any (h : Ry w x tb lb sb most seed R n own Rd lm sm l0 d) (t : Int) :
    Calls Try.prog 79 #[.pointer (some ⟨x, 0, none⟩), .int .i64 t] w fun e w' => e = .returned (.tuple #[.int .i64 (nextI d.sl t).1, .int .i64 (nextI d.sl t).2]) ∧ Below w.heap.size w w' := by
  obtain ⟨d0, d1, d2, d3, d4, d5⟩ := h.cells
  have HC := Lib.hid (rvcheck_any d0 t)
  obtain ⟨z, hz⟩ : ∃ z, nextI d.sl t = z := ⟨_, rfl⟩
  rw [hz]
  obtain ⟨z1, z2⟩ := z
  unfold nextI at hz
  cases ht : numB t
  · rw [ht] at HC hz
    have HZ := Lib.hid hz
    clear h d0 d1 d2 d3 d4 d5 ht hz
    go_enter Try.func79, Try.ntmps79
    go_wp2_with (go_at_call 73; refine HC.out.mono ?_; rintro e w1 ⟨rfl, rfl⟩)
    go_ret2
    injection HZ.out with z1 z2
    exact ⟨by rw [← z1, ← z2]; rfl, Below.refl _ _⟩
  · rw [ht] at HC hz
    obtain ⟨k, rfl⟩ : ∃ k : Nat, t = k := ⟨t.toNat, by unfold numB at ht; simp at ht; omega⟩
    have hk : k < 65536 := by unfold numB at ht; simp at ht; omega
    have HM := Lib.hid h.sv.mp.1
    have hap := h.sv.mp.apart Try.underlying3
    have HAP := Lib.hid hap
    have HAS : Hid (∀ m, m ∈ mkeys sm ↔ ofX d.sl m ≠ []) := fun m => by rw [← mhas_iff, h.sv.has m, decide_eq_true_eq]
    have HLT : Hid (∀ m, ofX d.sl m ≠ [] → m < 65536) := fun m hm => by
      obtain ⟨j, hj⟩ := List.exists_mem_of_ne_nil _ hm
      have h1 : (m : Int) < most := h.iw.nlt _ (ofX_mem.1 hj)
      have h2 := h.ms.2
      omega
    have hbl := h.sv.mp.lt
    rw [if_pos rfl, Int.toNat_natCast] at hz
    obtain ⟨S, hS⟩ : ∃ S, d.sl = S := ⟨_, rfl⟩
    rw [hS] at HAS HLT hz
    have HZ := Lib.hid hz
    clear h hap ht hS d0 d1 d2 d4 d5 hz
    go_enter Try.func79, Try.ntmps79
    go_wp2_with (first
      | (go_at_call 73; refine HC.out.mono ?_; rintro e w1 ⟨rfl, rfl⟩)
      | (at_range; refine wpList_range_own _ rfl _ 72 rfl 3 85 (int_keyed Try.underlying3) Try.underlying72 (Rv slcV (fun _ => True)) sb n _ rfl HM.out ?_; intro w0 hrg0 hg0 hs0)
      | go_in)
    go_frame
    go_loopw [7] (fun v wr => ∃ (left : Lit → Bool) (cnt b : Nat), v = .int .i64 (b : Int) ∧ wr.ranges Try.prog 3 (Rv slcV (fun _ => True)) sb w.heap.size n (liftM slcV .i64 sm) left cnt ∧ (b = 65536 ∨ (k ≤ b ∧ b ∈ mkeys (doneL .i64 left sm))) ∧ (∀ m ∈ mkeys (doneL .i64 left sm), k ≤ m → b ≤ m) ∧ b ≤ 65536 ∧ Below w.heap.size w wr ∧ w.heap.size + 1 ≤ wr.heap.size)
      (fun _ wr => wr.rangeLeft sb w.heap.size)
    case atStart => exact ⟨_, _, 65536, rfl, hrg0, .inl rfl, (by rw [doneL_start]; intro m hm; cases hm), Nat.le_refl _, (Below.refl _ _).grown hg0 (Nat.le_refl _) (fun k hk => by cases hk), by omega⟩
    case round =>
      obtain ⟨left, cnt, b, rfl, hrg, hb1, hb2, hb3, hbel, hsz⟩ := hrel
      have HRG := Lib.hid hrg
      have HB1 := Lib.hid hb1
      have HB2 := Lib.hid hb2
      have HBEL := Lib.hid hbel
      clear hrg hb1 hb2 hbel
      go_wp2_with (first
        | (at_next; refine wpList_next_v (val := slcV) (q := .i64) (w := wr) rfl _ rfl Try.underlying3 w.heap.size left cnt slcZ rfl HRG.out HAP.out slcV_inj ?_ ?_)
        | go_in)
      · intro hdone
        rw [hdone] at HB1 HB2
        by_cases hb : b = 65536
        · subst hb
          have hnx : nextX S k = none := nextX_eqn (fun m hm => by
            apply Classical.byContradiction
            intro hne
            have h1 := HB2.out m ((HAS.out m).2 hne) hm
            have h2 := HLT.out m hne
            omega)
          rw [hnx] at HZ
          clear hdone hnx
          go_wp2_with fail
          go_ret2
          injection HZ.out with z1 z2
          exact ⟨by rw [← z1, ← z2]; rfl, HBEL.out⟩
        · have hnx : nextX S k = some b := by
            rcases HB1.out with h1 | ⟨h1, h2⟩
            · exact absurd h1 hb
            · exact nextX_eq h1 ((HAS.out b).1 h2) (fun m hm hne => HB2.out m ((HAS.out m).2 hne) hm)
          rw [hnx] at HZ
          have hbe : ((b : Int) == 65536) = false := by rw [beq_eq_false_iff_ne]; omega
          clear hdone hnx hb
          go_wp2_with fail
          go_ret2
          injection HZ.out with z1 z2
          exact ⟨by rw [← z1, ← z2]; rfl, HBEL.out⟩
      · intro m c1 c2 c3 w1 left1 cnt1 hmem hperm hrg1 hlt hg1 hs1 hen
        have HR1 := Lib.hid hrg1
        have HBE1 := Lib.hid (HBEL.out.grown hg1 HBEL.out.size (fun j hj => by cases hj; exact Nat.le_refl _))
        have HKS : Hid (∀ j, j ∈ mkeys (doneL .i64 left1 sm) ↔ j = m ∨ j ∈ mkeys (doneL .i64 left sm)) := fun j => by
          have := (hperm.map (·.1)).mem_iff (a := j)
          rw [List.map_cons, List.mem_cons] at this
          exact this
        have HLTT := Lib.hid hlt
        have HLE := Lib.hid (HRG.out.left_eq)
        have hs2 : w.heap.size + 1 ≤ w1.heap.size := by omega
        have hm5 : m < 65536 := HLT.out m ((HAS.out m).1 (List.mem_map.2 ⟨_, hmem, rfl⟩))
        clear hmem hperm hrg1 hg1 hlt HRG HBEL hs1
        have hrl : w1.rangeLeft sb w.heap.size < wr.rangeLeft sb w.heap.size := by rw [HR1.out.left_eq, HLE.out]; exact HLTT.out
        by_cases hkm : k ≤ m
        · have hg : decide ((k : Int) ≤ (m : Int)) = true := decide_eq_true (by omega)
          go_wp2_with fail
          refine ⟨⟨left1, cnt1, min b m, by congr 1; omega, HR1.out, ?_, fun j hj hkj => ?_, by omega, HBE1.out, hs2⟩, hrl⟩
          · by_cases hbm : b ≤ m
            · rw [Nat.min_eq_left hbm]
              rcases HB1.out with h1 | h1
              · exact .inl h1
              · exact .inr ⟨h1.1, (HKS.out b).2 (.inr h1.2)⟩
            · rw [Nat.min_eq_right (by omega)]
              exact .inr ⟨hkm, (HKS.out m).2 (.inl rfl)⟩
          · rcases (HKS.out j).1 hj with rfl | h1
            · omega
            · have := HB2.out j h1 hkj
              omega
        · have hg : decide ((k : Int) ≤ (m : Int)) = false := decide_eq_false (by omega)
          go_wp2_with fail
          refine ⟨⟨left1, cnt1, b, rfl, HR1.out, ?_, fun j hj hkj => ?_, hb3, HBE1.out, hs2⟩, hrl⟩
          · rcases HB1.out with h1 | h1
            · exact .inl h1
            · exact .inr ⟨h1.1, (HKS.out b).2 (.inr h1.2)⟩
          · rcases (HKS.out j).1 hj with rfl | h1
            · omega
            · exact HB2.out j h1 hkj
end
end Go.Proofs.Ythngkimncdpekaa
