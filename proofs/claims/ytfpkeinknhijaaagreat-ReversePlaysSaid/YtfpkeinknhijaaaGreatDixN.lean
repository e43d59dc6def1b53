/- The document's index: Number, Next, Right. -/
import Derived.Test.YtfpkeinknhijaaaGreatDixC
import Derived.Test.YtfpkeinknhijaaaGreatDixL
namespace Go.Proofs.YtfpkeinknhijaaaGreat
set_option linter.unusedVariables false
open Go.RowKit Go.Maps Go.Sort

set_option maxHeartbeats 8000000 in
set_option maxRecDepth 100000 in
theorem xnext_any {w : World} {P : Nat → Prop} {d : Dx} {a : Dp} (h : Dix w P d a) (most : Int) (hl : d.sl.length ≤ 1000000) (t : Int) :
    Calls Tryz.prog 33 #[dixV most d a, .int .i64 t] w fun e w' => e = .returned (.tuple #[.int .i64 (nextI d.sl t).1, .int .i64 (nextI d.sl t).2]) ∧ Below w.heap.size w w' := by
  have HB : Hid (Below w.heap.size w (w.alloc (.cells (dixCs most d a) 35))) := (Below.refl _ _).alloc (Nat.le_refl _) _
  have HBX : Hid (Blk (w.alloc (.cells (dixCs most d a) 35)) w.heap.size 35 (dixCs most d a)) := Blk.new _ _ _
  have H := Lib.hid (h.below HB.out)
  have d3 := Blk.cell HBX.out 3
  simp only [List.getElem?_toArray, List.getElem?_cons_zero, List.getElem?_cons_succ] at d3
  obtain ⟨M, hM⟩ : ∃ M, d.sl.length = M := ⟨_, rfl⟩
  have HM := Lib.hid hM
  rw [hM] at d3 hl
  clear h hM
  cases hn : numB t with
  | false =>
    have hr : nextI d.sl t = (0, 2) := by unfold nextI; rw [hn]; rfl
    rw [hr]
    have HN := Lib.hid (xnumber_any t)
    rw [hn] at HN
    clear hn hr
    go_enter Tryz.func33, Tryz.ntmps33
    go_wp2_with (go_at_call 34; refine (HN.out _).mono ?_; rintro e w1 ⟨rfl, rfl⟩)
    exact bodyPost_ret (v := .tuple #[.int .i64 0, .int .i64 2]) (by simp [results, Tryz.results33, go_sem]) rfl ⟨rfl, HB.out⟩
  | true =>
    obtain ⟨k, rfl, hk⟩ := numB_nat hn
    have hr : nextI d.sl (k : Int) = match nextX d.sl k with | some n => ((n : Int), 0) | none => (0, 9) := by unfold nextI; rw [hn, if_pos rfl, Int.toNat_natCast]; rfl
    have HR := Lib.hid hr
    have HN := Lib.hid (xnumber_any (k : Int))
    rw [hn] at HN
    clear hn hr
    go_enter Tryz.func33, Tryz.ntmps33
    go_wp2_with (go_at_call 34; refine (HN.out _).mono ?_; rintro e w1 ⟨rfl, rfl⟩)
    clear HN
    go_loopg [6, 7] M (fun r s6 s7 wr => ∃ j : Nat, r + j = M ∧ s6 = .int .i64 (lowI (d.sl.take j) k) ∧ s7 = .int .i64 (j : Int) ∧ wr = w.alloc (.cells (dixCs most d a) 35))
    case atStart => exact ⟨0, by omega, rfl, rfl, rfl⟩
    case round =>
      obtain ⟨j, hjr, rfl, rfl, rfl⟩ := hrel
      have HJ := Lib.hid hjr
      have hjM : j ≤ M := by omega
      clear hjr
      by_cases hj : j < M
      · have HJL := Lib.hid hj
        obtain ⟨y, hy⟩ : ∃ y, d.sl[j]? = some y := ⟨_, List.getElem?_eq_getElem (by rw [HM.out]; exact hj)⟩
        obtain ⟨g, hp, hg, -, -, hcell⟩ := H.out.slots.at_ (by rw [HM.out]; omega)
        have y0 := hcell _ _ (sl_get hy).1
        have HLOW : Hid (lowI (d.sl.take (j + 1)) k = if k ≤ y.1 ∧ (lowI (d.sl.take j) k < 0 ∨ (y.1 : Int) < lowI (d.sl.take j) k) then (y.1 : Int) else lowI (d.sl.take j) k) := by
          unfold Hid
          rw [List.take_add_one, hy]
          exact low_snoc _ _ _
        obtain ⟨lo, hlo⟩ : ∃ lo, lowI (d.sl.take j) k = lo := ⟨_, rfl⟩
        rw [hlo] at HLOW ⊢
        rw [hp] at d3
        obtain ⟨y1, y2⟩ := y
        simp only at y0 HLOW
        clear hcell hy hg hp hlo
        by_cases c1 : (y1 : Int) ≥ (k : Int)
        · have C1 : Hid (k ≤ y1) := by unfold Hid; omega
          by_cases c2 : lo < 0
          · have C2 := Lib.hid c2
            go_wp2_with fail
            go_roundg (M - (j + 1))
            case measure => have := HJ.out; have := HJL.out; omega
            case rel => exact ⟨j + 1, by have := HJL.out; omega, by rw [HLOW.out, if_pos ⟨C1.out, .inl C2.out⟩], by go_num, rfl⟩
          · have C2 := Lib.hid c2
            by_cases c3 : (y1 : Int) < lo
            · have C3 := Lib.hid c3
              go_wp2_with fail
              go_roundg (M - (j + 1))
              case measure => have := HJ.out; have := HJL.out; omega
              case rel => exact ⟨j + 1, by have := HJL.out; omega, by rw [HLOW.out, if_pos ⟨C1.out, .inr C3.out⟩], by go_num, rfl⟩
            · have C3 := Lib.hid c3
              go_wp2_with fail
              go_roundg (M - (j + 1))
              case measure => have := HJ.out; have := HJL.out; omega
              case rel => exact ⟨j + 1, by have := HJL.out; omega, by rw [HLOW.out, if_neg (fun h => h.2.elim (fun h => by have := C2.out; omega) (fun h => by have := C3.out; omega))], by go_num, rfl⟩
        · have C1 : Hid (¬ k ≤ y1) := by unfold Hid; omega
          go_wp2_with fail
          go_roundg (M - (j + 1))
          case measure => have := HJ.out; have := HJL.out; omega
          case rel => exact ⟨j + 1, by have := HJL.out; omega, by rw [HLOW.out, if_neg (fun h => C1.out h.1)], by go_num, rfl⟩
      · obtain rfl : j = M := by omega
        have HTA : Hid (d.sl.take j = d.sl) := List.take_of_length_le (by rw [HM.out]; exact Nat.le_refl _)
        rw [HTA.out]
        rcases low_ge d.sl k with h1 | ⟨m, h1, h2⟩
        · have HE : Hid (nextI d.sl (k : Int) = (0, 9)) := by unfold Hid; rw [HR.out, low_none h1]
          rw [h1]
          clear h1
          go_wp2_with fail
          exact bodyPost_ret (v := .tuple #[.int .i64 0, .int .i64 9]) (by simp [results, Tryz.results33, go_sem]) rfl ⟨by rw [HE.out], HB.out⟩
        · have HE : Hid (nextI d.sl (k : Int) = ((m : Int), 0)) := by unfold Hid; rw [HR.out, h2]
          rw [h1]
          have hm0 : ¬ (m : Int) < 0 := by omega
          have hm1 : decide ((m : Int) < 0) = false := decide_eq_false hm0
          clear h1 h2
          go_wp2_with fail
          exact bodyPost_ret (v := .tuple #[.int .i64 (m : Int), .int .i64 0]) (by simp [results, Tryz.results33, go_sem]) rfl ⟨by rw [HE.out], HB.out⟩
/-- What one entry gives, by its first tags. -/
def innX (e : En) (tag : List UInt8) (k : Nat) : List Nat := if e.live = true then ((e.tags.take k).filter (· == tag)).map (fun _ => e.id) else []
theorem innX_zero (e : En) (tag : List UInt8) : innX e tag 0 = [] := by unfold innX; split <;> simp
theorem innX_all (e : En) (tag : List UInt8) (k : Nat) (h : e.tags.length ≤ k) : innX e tag k = if e.live = true then (e.tags.filter (· == tag)).map (fun _ => e.id) else [] := by unfold innX; rw [List.take_of_length_le h]
theorem innX_len (e : En) (tag : List UInt8) (k : Nat) : (innX e tag k).length ≤ k := by
  unfold innX
  split
  · rw [List.length_map]
    exact Nat.le_trans (List.length_filter_le _ _) (by rw [List.length_take]; omega)
  · exact Nat.zero_le _
theorem innX_step (e : En) (tag : List UInt8) {k : Nat} {tk : List UInt8} (h : e.tags[k]? = some tk) : innX e tag (k + 1) = innX e tag k ++ (if e.live = true ∧ tk = tag then [e.id] else []) := by
  unfold innX
  by_cases hl : e.live = true
  · rw [if_pos hl, if_pos hl, List.take_add_one, h, List.filter_append, List.map_append]
    congr 1
    by_cases ht : tk = tag
    · rw [if_pos ⟨hl, ht⟩]
      simp [ht]
    · rw [if_neg (fun h => ht h.2)]
      simp [ht]
  · rw [if_neg hl, if_neg hl, if_neg (fun h => hl h.1)]
    rfl
theorem rightX_snoc (A : List En) (e : En) (t : List UInt8) : rightX (A ++ [e]) t = rightX A t ++ (if e.live = true then (e.tags.filter (· == t)).map (fun _ => e.id) else []) := by
  unfold rightX
  simp
theorem rightX_len : ∀ (A : List En) (t : List UInt8), (∀ e ∈ A, e.tags.length ≤ 16) → (rightX A t).length ≤ A.length * 16
  | [], t, _ => Nat.zero_le _
  | e :: A, t, h => by
    have h1 := rightX_len A t (fun e he => h e (List.mem_cons_of_mem _ he))
    have h2 := h e List.mem_cons_self
    show ((if e.live = true then (e.tags.filter (· == t)).map (fun _ => e.id) else []) ++ rightX A t).length ≤ _
    rw [List.length_append, List.length_cons]
    have h3 : (if e.live = true then (e.tags.filter (· == t)).map (fun _ => e.id) else []).length ≤ 16 := by
      split
      · rw [List.length_map]
        exact Nat.le_trans (List.length_filter_le _ _) h2
      · exact Nat.zero_le _
    omega
set_option maxHeartbeats 8000000 in
set_option maxRecDepth 100000 in
theorem xright_any {w : World} {P : Nat → Prop} {d : Dx} {a : Dp} (h : Dix w P d a) (most : Int) (hl : d.all.length ≤ 10000) (ht16 : ∀ e ∈ d.all, e.tags.length ≤ 16) (tag : List UInt8) :
    Calls Tryz.prog 38 #[dixV most d a, .string ⟨tag.toArray⟩] w (NewRow w 22 (idsV (rightX d.all tag))) := by
  have HB : Hid (Below w.heap.size w (w.alloc (.cells (dixCs most d a) 35))) := (Below.refl _ _).alloc (Nat.le_refl _) _
  have HBX : Hid (Blk (w.alloc (.cells (dixCs most d a) 35)) w.heap.size 35 (dixCs most d a)) := Blk.new _ _ _
  have H := Lib.hid (h.below HB.out)
  obtain ⟨N, hN⟩ : ∃ N, d.all.length = N := ⟨_, rfl⟩
  have HN := Lib.hid hN
  have HT16 := Lib.hid ht16
  rw [hN] at hl
  obtain ⟨ii, hii, hy0, hy1, hy2⟩ := info_parts u64Info
  clear h hN ht16
  go_enter Tryz.func38, Tryz.ntmps38
  have d2 := Blk.cell HBX.out 2
  simp only [List.getElem?_toArray, List.getElem?_cons_zero, List.getElem?_cons_succ] at d2
  rw [HN.out] at d2
  go_upto_region 1 with (fail)
  clear d2
  generalize w.alloc (.cells (dixCs most d a) 35) = W at *
  have HSZ : Hid (w.heap.size ≤ W.heap.size) := HB.out.size
  go_wp2_with fail
  go_loopg [5, 6] N (fun r s5 s6 wr => ∃ (i : Nat) (q : Option Addr) (c : Nat), r + i = N ∧ s6 = .int .i64 (i : Int) ∧ s5 = .slice q (rightX (d.all.take i) tag).length c ∧ wr.ownsRow W.heap.size 22 1 (.slice q (rightX (d.all.take i) tag).length c) (rightX (d.all.take i) tag).length (idsV (rightX (d.all.take i) tag)) ∧ Below W.heap.size W wr)
  case atStart => exact ⟨0, none, 0, by omega, rfl, rfl, World.ownsRow_nil _ _ _ _, Below.refl _ _⟩
  case round =>
    obtain ⟨i, q, c, hr, rfl, rfl, hrow, hb⟩ := hrel
    have HR := Lib.hid hr
    have ROW := Lib.hid hrow
    have BR := Lib.hid hb
    have hiN : i ≤ N := by omega
    have hbx := Blk.below HBX.out hb HBX.out.lt
    have d2 := Blk.cell hbx 2
    simp only [List.getElem?_toArray, List.getElem?_cons_zero, List.getElem?_cons_succ] at d2
    rw [HN.out] at d2
    obtain ⟨o1, ho1⟩ : ∃ o1, rightX (d.all.take i) tag = o1 := ⟨_, rfl⟩
    have HO1 := Lib.hid ho1
    have ho1l : o1.length ≤ i * 16 := by
      rw [← ho1]
      have := rightX_len (d.all.take i) tag (fun e he => HT16.out e (List.mem_of_mem_take he))
      rw [List.length_take] at this
      omega
    rw [ho1] at ROW ⊢
    obtain ⟨T1, hT1⟩ : ∃ T1, o1.length = T1 := ⟨_, rfl⟩
    have HT1 := Lib.hid hT1
    rw [hT1] at ROW ho1l ⊢
    clear hr hrow hb hbx ho1 hT1
    by_cases hlt : i < N
    · obtain ⟨e, he⟩ : ∃ e, d.all[i]? = some e := ⟨_, List.getElem?_eq_getElem (by rw [HN.out]; exact hlt)⟩
      obtain ⟨cc, hcc⟩ := H.out.ec he
      obtain ⟨gA, hp, hg, -, -, hcell⟩ := (H.out.below BR.out).all.at_ (by rw [HN.out]; omega)
      have hte := HT16.out e (List.mem_of_getElem? he)
      have HNXT : Hid (rightX (d.all.take (i + 1)) tag = o1 ++ (if e.live = true then (e.tags.filter (· == tag)).map (fun _ => e.id) else [])) := by
        unfold Hid
        rw [List.take_add_one, he, ← HO1.out]
        exact rightX_snoc _ _ _
      obtain ⟨K, hK⟩ : ∃ K, e.tags.length = K := ⟨_, rfl⟩
      have HK := Lib.hid hK
      have HSUB := Lib.hid ((H.out.sub i e cc he hcc).1)
      have n0 := ens_get he hcc 0 (by decide)
      have n1 := ens_get he hcc 1 (by decide)
      have n3 := ens_get he hcc 3 (by decide)
      have HCELL : Hid (∀ w', Below W.heap.size W w' → w'.cell? ⟨gA, i * 4, none⟩ = some (.int .u64 (e.id : Int)) ∧ w'.cell? ⟨gA, i * 4 + 1, none⟩ = some (.slice cc.pt K cc.ct) ∧ w'.cell? ⟨gA, i * 4 + 3, none⟩ = some (.bool e.live) ∧ w'.cell? ⟨w.heap.size, 2, none⟩ = some (.slice (some ⟨gA, 0, none⟩) N a.cA)) := fun w' hb => by
        obtain ⟨g2, hp2, -, -, -, hc2⟩ := (H.out.below hb).all.at_ (by rw [HN.out]; omega)
        rw [hp] at hp2
        injection hp2 with hp2
        injection hp2 with hp2
        subst hp2
        have hx2 := Blk.cell (Blk.below HBX.out hb HBX.out.lt) 2
        simp only [List.getElem?_toArray, List.getElem?_cons_zero, List.getElem?_cons_succ] at hx2
        rw [HN.out, hp] at hx2
        rw [← hK]
        exact ⟨hc2 (i * 4 + 0) _ (n0.trans rfl), hc2 _ _ (n1.trans rfl), hc2 _ _ (n3.trans rfl), hx2⟩
      rw [hK] at hte
      obtain ⟨z0, z1, z3, z2⟩ := HCELL.out wr BR.out
      clear d2 hcell he hcc hg n0 n1 n3 hp hK
      go_wp2_with fail
      go_loopg [5, 7] K (fun r s5 s7 wx => ∃ (k : Nat) (q' : Option Addr) (c' : Nat), r + k = K ∧ s7 = .int .i64 (k : Int) ∧ s5 = .slice q' (o1 ++ innX e tag k).length c' ∧ wx.ownsRow W.heap.size 22 1 (.slice q' (o1 ++ innX e tag k).length c') (o1 ++ innX e tag k).length (idsV (o1 ++ innX e tag k)) ∧ Below W.heap.size W wx)
      case atStart => exact ⟨0, q, c, by omega, rfl, by rw [innX_zero, List.append_nil, HT1.out], by rw [innX_zero, List.append_nil, HT1.out]; exact ROW.out, BR.out⟩
      case round =>
        clear ROW BR z0 z1 z2 z3
        obtain ⟨k, q', c', hr, rfl, rfl, hrow, hb⟩ := hrel
        have HRK := Lib.hid hr
        have ROW := Lib.hid hrow
        have BR := Lib.hid hb
        have hkK : k ≤ K := by omega
        obtain ⟨z0, z1, z3, z2⟩ := HCELL.out wr hb
        have hil : (innX e tag k).length ≤ 16 := by
          have := innX_len e tag k
          omega
        obtain ⟨o2, ho2⟩ : ∃ o2, o1 ++ innX e tag k = o2 := ⟨_, rfl⟩
        have HO2 := Lib.hid ho2
        have ho2l : o2.length ≤ i * 16 + 16 := by rw [← ho2, List.length_append, HT1.out]; omega
        rw [ho2] at ROW ⊢
        obtain ⟨T2, hT2⟩ : ∃ T2, o2.length = T2 := ⟨_, rfl⟩
        have HT2 := Lib.hid hT2
        rw [hT2] at ROW ho2l ⊢
        clear hr hrow hb ho2 hT2 hil
        by_cases hklt : k < K
        · obtain ⟨tk, htk⟩ : ∃ tk, e.tags[k]? = some tk := ⟨_, List.getElem?_eq_getElem (by rw [HK.out]; exact hklt)⟩
          have hsub := HSUB.out.below BR.out
          rw [HK.out] at hsub
          obtain ⟨gT, hpt, -, -, -, hct⟩ := hsub.at_ (by omega)
          have x0 := hct k (.string ⟨tk.toArray⟩) (by rw [List.getElem?_map, htk]; rfl)
          rw [hpt] at z1
          have HSTEP := Lib.hid (innX_step e tag htk)
          clear hct hpt hsub htk
          obtain ⟨lv, hlv⟩ : ∃ lv, e.live = lv := ⟨_, rfl⟩
          rw [hlv] at z3 HSTEP
          obtain ⟨ei, hei⟩ : ∃ ei, e.id = ei := ⟨_, rfl⟩
          rw [hei] at z0 HSTEP
          clear hlv hei
          cases lv with
          | false =>
            rw [if_neg (by simp)] at HSTEP
            go_wp2_with fail
            go_roundg (K - (k + 1))
            case measure => have := HRK.out; omega
            case rel => exact ⟨k + 1, q', c', by omega, by go_num, by rw [HSTEP.out, List.append_nil, HO2.out, HT2.out], by rw [HSTEP.out, List.append_nil, HO2.out, HT2.out]; exact ROW.out, BR.out⟩
          | true =>
            by_cases heq : tk = tag
            · subst heq
              rw [if_pos ⟨rfl, rfl⟩] at HSTEP
              have hne : ((⟨tk.toArray⟩ : ByteArray).toList == (⟨tk.toArray⟩ : ByteArray).toList) = true := by simp
              go_wp2_with (at_builtin; refine wpList_append_own_at _ rfl _ _ 66 rfl W.heap.size 22 ii (.int .u64 0) 1 8 Tryz.underlying66 hii hy0 hy1 hy2 rfl (by decide) _ _ _ rfl (ROW.out.alloc _) ⟨wr.heap.size, 0, none⟩ 1 1 [.int .u64 (ei : Int)] rfl rfl ?c1 ?c2 ?c3 ?c4 ?c5 ?_)
              case c1 => exact cell_one_new _ _ _
              case c2 => exact one_int _ _
              case c3 => unfold maxLen; omega
              case c4 => omega
              case c5 => have := BR.out.size; simp; omega
              intro v6 w6 hown hg6 _ _
              obtain ⟨q6, c6, rfl⟩ := owns_form hown
              have HB6 : Hid (Below W.heap.size W w6) := below_append BR.out (by have := BR.out.size; omega) ROW.out hg6
              have HOWN := Lib.hid hown
              clear hown hg6
              go_wp2_with fail
              go_roundg (K - (k + 1))
              case measure => have := HRK.out; omega
              case rel =>
                have hlen : (o1 ++ innX e tk (k + 1)).length = T2 + 1 := by rw [HSTEP.out, ← List.append_assoc, HO2.out, List.length_append, HT2.out]; rfl
                refine ⟨k + 1, q6, c6, by omega, by go_num, by rw [hlen], ?_, HB6.out⟩
                rw [hlen]
                have h2 : idsV (o1 ++ innX e tk (k + 1)) = idsV o2 ++ [.int .u64 (ei : Int)] := by rw [HSTEP.out, ← List.append_assoc, HO2.out]; simp [idsV]
                rw [h2]
                exact HOWN.out
            · rw [if_neg (fun h => heq h.2)] at HSTEP
              have hne : ((⟨tk.toArray⟩ : ByteArray).toList == (⟨tag.toArray⟩ : ByteArray).toList) = false := by
                rw [mk_toList, mk_toList, beq_eq_false_iff_ne]
                exact heq
              clear heq
              generalize (⟨tk.toArray⟩ : ByteArray) = S1 at *
              generalize (⟨tag.toArray⟩ : ByteArray) = S2 at *
              go_wp2_with fail
              go_roundg (K - (k + 1))
              case measure => have := HRK.out; omega
              case rel => exact ⟨k + 1, q', c', by omega, by go_num, by rw [HSTEP.out, List.append_nil, HO2.out, HT2.out], by rw [HSTEP.out, List.append_nil, HO2.out, HT2.out]; exact ROW.out, BR.out⟩
        · obtain rfl : k = K := by omega
          have HFIN : Hid (o2 = rightX (d.all.take (i + 1)) tag) := by
            unfold Hid
            rw [← HO2.out, HNXT.out, innX_all e tag k (by rw [HK.out]; exact Nat.le_refl _)]
          go_wp2_with fail
          go_roundg (N - (i + 1))
          case measure => have := HR.out; omega
          case rel => exact ⟨i + 1, q', c', by omega, by go_num, by rw [← HFIN.out, HT2.out], by rw [← HFIN.out, HT2.out]; exact ROW.out, BR.out⟩
    · obtain rfl : i = N := by omega
      have HTA : Hid (d.all.take i = d.all) := List.take_of_length_le (by rw [HN.out]; exact Nat.le_refl _)
      go_wp2_with fail
      go_ret
      rw [HTA.out] at HO1
      refine ⟨_, rfl, ?_, HB.out.trans (BR.out.mono HSZ.out)⟩
      rw [HO1.out, List.length_map, HT1.out]
      exact ownsRow_low ROW.out HSZ.out
end Go.Proofs.YtfpkeinknhijaaaGreat
