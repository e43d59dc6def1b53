/- Contracts of Join. -/
import Derived.Test.YtbcfbdkacnnkgaaDoorKeyD
namespace Go.Proofs.YtbcfbdkacnnkgaaDoor
set_option linter.unusedVariables false
open Go.ChangeShapes Go.WideShapes Go.ChangeAt Go.RowKit

theorem strings_join_any (v : Value) (l : List Bs) (w : World) (h : Reads w v (l.map encStr)) (hb : (l.map (·.length)).sum ≤ 100000) (hl : l.length ≤ 100000) :
    Calls Tryd.prog 39 #[v, .string ⟨#[47]⟩] w fun e w' => e = .returned (.string ⟨(kJoinB l).toArray⟩) ∧ Below w.heap.size w w' := by
  obtain ⟨p, cap, rfl, hl2, h2⟩ := h
  simp only [List.length_map] at *
  by_cases h0 : l = []
  · subst h0
    refine (Tryd.strings_Join_none p cap ⟨#[47]⟩ w).mono ?_
    rintro e w' ⟨rfl, rfl⟩
    exact ⟨rfl, Below.refl _ _⟩
  · rcases h2 with h2 | ⟨blk, off, rfl, hlt, hc, hcell⟩
    · exact absurd (List.eq_nil_of_length_eq_zero h2) h0
    · have hm : (l.map fun b => (⟨b.toArray⟩ : ByteArray)).map (·.data.toList) = l := by
        rw [List.map_map]
        conv => rhs; rw [← List.map_id l]
        apply List.map_congr_left
        intro x _
        simp
      have hj := Tryd.strings_Join blk off cap (l.map fun b => (⟨b.toArray⟩ : ByteArray)) ⟨#[47]⟩ w (fun j x hx => by
        rw [List.getElem?_map] at hx
        obtain ⟨b, hb', rfl⟩ := Option.map_eq_some_iff.1 hx
        exact hcell j _ (encStr_getElem l j b hb')) hlt (by rw [List.length_map]; omega) (by rw [List.length_map]; exact hc) (by
        rw [hm]
        have := kJoinB_length l
        show (kJoinB l).length ≤ _
        omega)
      rw [hm, List.length_map] at hj
      exact hj

theorem kValid_join (l : List Bs) : kJoin l = if kValid (kJoinB l).length = true ∧ ((kJoinB l).count 47 : Int) = (l.length : Int) - 1 then (kJoinB l, 0) else ([], 2) := by
  unfold kJoin kValid
  simp [and_assoc]

set_option maxHeartbeats 1000000 in
theorem keyJoin_any (v : Value) (l : List Bs) (w : World) (h : Reads w v (l.map encStr)) (hb : (l.map (·.length)).sum ≤ 100000) (hl : l.length ≤ 100000) :
    Calls Tryd.prog 26 #[v] w fun e w' => e = .returned (.tuple #[.string ⟨(kJoin l).1.toArray⟩, .int .i64 (kJoin l).2]) ∧ Below w.heap.size w w' := by
  have hj := strings_join_any v l w h hb hl
  have HJ := Lib.hid hj
  have hsz : (⟨(kJoinB l).toArray⟩ : ByteArray).size = (kJoinB l).length := by show (kJoinB l).toArray.size = _; simp
  have hcnt : Lib.countByte (⟨(kJoinB l).toArray⟩ : ByteArray).data.toList 47 = (kJoinB l).count 47 := by simp [Lib.countByte]
  obtain ⟨p, cap, rfl, hl2, h2⟩ := h
  rw [List.length_map] at HJ ⊢
  have HV := Lib.hid (kValid_join l)
  clear h2 hl2 hj
  generalize hx : kJoinB l = x at *
  have HX := Lib.hid hx
  clear hx
  generalize hk : kJoin l = r at *
  have HK := Lib.hid hk
  clear hk
  rcases Bool.eq_false_or_eq_true (kValid x.length) with hv | hv
  · rcases Bool.eq_false_or_eq_true (((x.count 47 : Nat) : Int) != (l.length : Int) - 1) with hc1 | hc1
    · have hr : r = ([], 2) := by rw [HV.out, if_neg (fun h => by rw [bne_iff_ne] at hc1; exact hc1 h.2)]
      have HR := Lib.hid hr
      clear hr
      go_enter Tryd.func26, Tryd.ntmps26
      go_wp2_with (first
        | (go_at_call 39; refine HJ.out.mono ?_; rintro e w1 ⟨rfl, hb1⟩)
        | (go_at_call 11; refine (keyValid_any _ _).mono ?_; rw [hsz]; rintro e w' ⟨rfl, rfl⟩)
        | (go_at_call 40; refine (Tryd.strings_Count_one _ 47 _).mono ?_; rw [hcnt]; rintro e w' ⟨rfl, hw⟩; subst hw))
      go_ret2
      rw [HR.out]
      exact ⟨rfl, hb1⟩
    · have hr : r = (x, 0) := by rw [HV.out, if_pos ⟨hv, by simpa using hc1⟩]
      have HR := Lib.hid hr
      clear hr
      go_enter Tryd.func26, Tryd.ntmps26
      go_wp2_with (first
        | (go_at_call 39; refine HJ.out.mono ?_; rintro e w1 ⟨rfl, hb1⟩)
        | (go_at_call 11; refine (keyValid_any _ _).mono ?_; rw [hsz]; rintro e w' ⟨rfl, rfl⟩)
        | (go_at_call 40; refine (Tryd.strings_Count_one _ 47 _).mono ?_; rw [hcnt]; rintro e w' ⟨rfl, hw⟩; subst hw))
      go_ret2
      rw [HR.out]
      exact ⟨rfl, hb1⟩
  · have hr : r = ([], 2) := by rw [HV.out, if_neg (fun h => by rw [hv] at h; cases h.1)]
    have HR := Lib.hid hr
    clear hr
    go_enter Tryd.func26, Tryd.ntmps26
    go_wp2_with (first
        | (go_at_call 39; refine HJ.out.mono ?_; rintro e w1 ⟨rfl, hb1⟩)
        | (go_at_call 11; refine (keyValid_any _ _).mono ?_; rw [hsz]; rintro e w' ⟨rfl, rfl⟩)
        | (go_at_call 40; refine (Tryd.strings_Count_one _ 47 _).mono ?_; rw [hcnt]; rintro e w' ⟨rfl, hw⟩; subst hw))
    go_ret2
    rw [HR.out]
    exact ⟨rfl, hb1⟩

/-- kJoinR, with its parts by name. -/
theorem kJoinR_bad (l : List Bs) (h : kBad l = true) : kJoin l = ([], 2) := by
  have h' : l.any (fun x => decide ((kSegs x).length ≠ 1)) = true := h
  rw [kJoin_eq, kJoinR, if_pos h']
theorem kJoinR_fine (l : List Bs) (h : kBad l = false) : kJoin l = if l = [] ∨ kValid (kJoinB l).length = false then ([], 2) else (kJoinB l, 0) := by
  have h' : l.any (fun x => decide ((kSegs x).length ≠ 1)) = false := h
  rw [kJoin_eq, kJoinR]
  simp only [h', Bool.false_eq_true, if_false]
  unfold kValid
  simp only [decide_eq_false_iff_not]

theorem refSegs_len (x : Bs) (hx : x.length ≤ 1000000) (w : World) :
    Calls Tryd.prog 24 #[.string ⟨x.toArray⟩] w fun e w' => ∃ p c, e = .returned (.slice p (kSegs x).length c) ∧ Below w.heap.size w w' := by
  have hs : (⟨x.toArray⟩ : ByteArray).size ≤ 1000000 := by show x.toArray.size ≤ _; simpa using hx
  refine (refSegments_any ⟨x.toArray⟩ hs w).mono ?_
  rintro e w' ⟨v, rfl, hown, hb⟩
  have e0 : (⟨x.toArray⟩ : ByteArray).data.toList = x := by simp
  rw [e0] at hown
  rcases hown.2 with ⟨rfl, h0⟩ | ⟨g, cap, cur, rfl, _⟩
  · exact ⟨none, 0, by rw [h0], hb⟩
  · exact ⟨_, _, rfl, hb⟩

set_option maxHeartbeats 1000000 in
set_option maxRecDepth 100000 in
theorem refJoin_any (v : Value) (l : List Bs) (w : World) (h : Reads w v (l.map encStr)) (hb : (l.map (·.length)).sum ≤ 100000) (hl : l.length ≤ 100000) :
    Calls Tryd.prog 27 #[v] w fun e w' => e = .returned (.tuple #[.string ⟨(kJoin l).1.toArray⟩, .int .i64 (kJoin l).2]) ∧ Below w.heap.size w w' := by
  obtain ⟨p, cap, rfl, hl2, h2⟩ := h
  rw [List.length_map] at h2 ⊢
  clear hl2
  by_cases hnil : l = []
  · subst hnil
    have hr : kJoin [] = ([], 2) := by decide
    have HR := Lib.hid hr
    clear hr
    go_enter Tryd.func27, Tryd.ntmps27
    go_wp2
    go_rounds 1
    go_ret2
    rw [HR.out]
    exact ⟨rfl, Below.refl _ _⟩
  · rcases h2 with h2 | ⟨blk, off, rfl, hblk, hcap, hcell⟩
    · exact absurd (List.eq_nil_of_length_eq_zero h2) hnil
    have HC := Lib.hid hcell
    have HN := Lib.hid hnil
    clear hcell hnil
    go_enter Tryd.func27, Tryd.ntmps27
    go_wp2
    go_loopw [4, 5] (fun v i wr => ∃ k : Nat, k ≤ l.length ∧ i = .int .i64 k ∧ v = .string ⟨(kJoinB (l.take k)).toArray⟩ ∧ Hid (kBad (l.take k) = false) ∧ Below w.heap.size w wr) (fun _ i _ => l.length - (intOf i).toNat)
    case atStart => exact ⟨0, by omega, rfl, rfl, rfl, Below.refl _ _⟩
    case round =>
      obtain ⟨k, hk, rfl, rfl, HB, hbl⟩ := hrel
      by_cases hlt : k < l.length
      · obtain ⟨x, hx⟩ : ∃ x, l[k]? = some x := ⟨l[k], List.getElem?_eq_getElem hlt⟩
        have htk : l.take (k + 1) = l.take k ++ [x] := by rw [List.take_add_one, hx]; rfl
        have hsum := sum_take_le l (k + 1)
        have hlen0 := kJoinB_length (l.take k)
        have hsum0 := sum_take_le l k
        have hxl : x.length ≤ 100000 := by
          rw [htk] at hsum
          simp only [List.map_append, List.sum_append, List.map_cons, List.map_nil, List.sum_cons, List.sum_nil] at hsum
          omega
        have hjl : (kJoinB (l.take k)).length ≤ 200000 := by
          rw [List.length_take] at hlen0
          omega
        have hcell : wr.cell? ⟨blk, off + k, none⟩ = some (.string ⟨x.toArray⟩) := by
          rw [hbl.cell (p := ⟨blk, off + k, none⟩) hblk]; exact HC.out k _ (encStr_getElem l k x hx)
        have hsn := kJoinB_snoc (l.take k) x
        rw [← htk] at hsn
        have hbs := kBad_snoc (l.take k) x
        rw [← htk, HB.out] at hbs
        have htn : (l.take k = []) ↔ k = 0 := by
          have := HN.out
          constructor
          · intro h
            have := congrArg List.length h
            rw [List.length_take] at this
            simp at this
            rcases this with h | h
            · exact h
            · exact absurd h HN.out
          · rintro rfl; rfl
        by_cases h1 : (kSegs x).length = 1
        · have hbf : kBad (l.take (k + 1)) = false := by rw [hbs]; simp [h1]
          have HBF := Lib.hid hbf
          have c1 : (((kSegs x).length : Int) != 1) = false := by rw [h1]; rfl
          clear hsum hlen0 hsum0 hx htk hbs hbf
          by_cases hk0 : k = 0
          · have hj2 : kJoinB (l.take (k + 1)) = x := by rw [hsn, if_pos (htn.2 hk0)]
            have HJ := Lib.hid hj2
            have hj3 : kJoinB (l.take k) = [] := by rw [htn.2 hk0]; rfl
            have c2 : ¬ (0 : Int) < (k : Int) := by omega
            clear hj2 hsn htn hk0
            rw [hj3]
            clear hj3
            have hxc : x.length ≤ 9223372036854775807 := by omega
            go_wp2_with (go_at_call 24; refine (refSegs_len x (by omega) _).mono ?_; rintro e w1 ⟨p1, q1, rfl, hb1⟩; have hcell1 := cell_below hcell hb1)
            go_roundw
            case rel => exact ⟨k + 1, by omega, by go_num, by rw [HJ.out]; exact congrArg Value.string (bs_append [] x), HBF, hbl.trans (hb1.mono hbl.size)⟩
            case measure => simp [intOf]; omega
          · have hj2 : kJoinB (l.take (k + 1)) = kJoinB (l.take k) ++ [47] ++ x := by rw [hsn, if_neg (fun h => hk0 (htn.1 h))]; simp
            have HJ := Lib.hid hj2
            have c2 : (0 : Int) < (k : Int) := by omega
            clear hj2 hsn htn hk0
            generalize kJoinB (l.take k) = y at *
            have hyc : y.length + 1 ≤ 9223372036854775807 := by omega
            have hyc2 : y.length ≤ 9223372036854775806 := by omega
            have hyc3 : y.length + 1 + x.length ≤ 9223372036854775807 := by omega
            go_wp2_with (go_at_call 24; refine (refSegs_len x (by omega) _).mono ?_; rintro e w1 ⟨p1, q1, rfl, hb1⟩; have hcell1 := cell_below hcell hb1)
            go_roundw
            case rel => exact ⟨k + 1, by omega, by go_num, by rw [HJ.out]; show Value.string ((⟨y.toArray⟩ : ByteArray) ++ ⟨[47].toArray⟩ ++ ⟨x.toArray⟩) = _; rw [bs_append, bs_append], HBF, hbl.trans (hb1.mono hbl.size)⟩
            case measure => simp [intOf]; omega
        · have hbt : kJoin l = ([], 2) := kJoinR_bad l (kBad_take l (k + 1) (by rw [hbs]; simp [h1]))
          have HBT := Lib.hid hbt
          have c1 : (((kSegs x).length : Int) != 1) = true := by rw [bne_iff_ne]; omega
          clear hsum hlen0 hsum0 hx htk hbs hbt hsn htn h1
          go_wp2_with (go_at_call 24; refine (refSegs_len x (by omega) _).mono ?_; rintro e w1 ⟨p1, q1, rfl, hb1⟩; have hcell1 := cell_below hcell hb1)
          go_ret2
          rw [HBT.out]
          exact ⟨rfl, hbl.trans (hb1.mono hbl.size)⟩
      · have htl : l.take k = l := List.take_of_length_le (by omega)
        have hbf := HB.out
        rw [htl] at hbf
        have hr := kJoinR_fine l hbf
        have HR := Lib.hid hr
        rw [htl]
        have hsz : (⟨(kJoinB l).toArray⟩ : ByteArray).size = (kJoinB l).length := by show (kJoinB l).toArray.size = _; simp
        have c1 : ((l.length : Int) == 0) = false := by
          rw [beq_eq_false_iff_ne]
          intro h
          exact HN.out (List.eq_nil_of_length_eq_zero (by omega))
        clear htl hbf hr HB
        rcases Bool.eq_false_or_eq_true (kValid (kJoinB l).length) with hv | hv
        all_goals
          go_wp2_with (go_at_call 12; refine (refValid_any _ _).mono ?_; rw [hsz]; rintro e w' ⟨rfl, rfl⟩)
          go_ret2
          rw [HR.out]
        · rw [if_neg (by rw [hv]; simp [HN.out])]
          exact ⟨rfl, hbl⟩
        · rw [if_pos (.inr hv)]
          exact ⟨rfl, hbl⟩
end Go.Proofs.YtbcfbdkacnnkgaaDoor
