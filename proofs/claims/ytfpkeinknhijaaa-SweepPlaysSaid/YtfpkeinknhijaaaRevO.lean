/- few; holds; two indexes of the law's own. -/
import Derived.Test.YtfpkeinknhijaaaOpenT
namespace Go.Proofs.Ytfpkeinknhijaaa
set_option linter.unusedVariables false
open Go.RowKit Go.Maps Go.Sort

theorem RActs.below {W w : World} {q : Option Addr} {L : List Ra} (h : RActs W q L) (hb : Below W.heap.size W w) : RActs w q L := by
  intro i X hX
  obtain ⟨h1, h2, blk, off, h3, h4, h5⟩ := h i X hX
  exact ⟨h1, h2.below hb, blk, off, h3, Nat.lt_of_lt_of_le h4 hb.size, fun j hj => (hb.cell (p := ⟨blk, off + i * 5 + j, none⟩) h4).trans (h5 j hj)⟩
def FewOk (L : List Ra) : Prop := L.length ≤ 40 ∧ ∀ X ∈ L, X.ts.length ≤ 20 ∧ ∀ s ∈ X.ts, s.length ≤ 100
open Classical in
noncomputable def fewB (L : List Ra) : Bool := decide (FewOk L)
open Classical in
theorem fewB_no {L : List Ra} (h : ¬ FewOk L) : fewB L = false := by unfold fewB; exact decide_eq_false h
open Classical in
theorem fewB_yes {L : List Ra} (h : fewB L = true) : FewOk L := by unfold fewB at h; exact of_decide_eq_true h
def FewP (w : World) (L : List Ra) (e : Ending) (w' : World) : Prop := e = .returned (.bool (fewB L)) ∧ w = w'
set_option maxHeartbeats 4000000 in
set_option maxRecDepth 100000 in
theorem few_any (q : Option Addr) (cap : Nat) (L : List Ra) (w : World) (h : RActs w q L) :
    Calls Try.prog 10 #[.slice q L.length cap] w (FewP w L) := by
  have HR := Lib.hid h
  obtain ⟨N, hN⟩ : ∃ N, L.length = N := ⟨_, rfl⟩
  have HN := Lib.hid hN
  rw [hN]
  clear h hN
  go_enter Try.func10, Try.ntmps10
  go_wp2_with fail
  go_loopg [3] N (fun r v wr => ∃ k : Nat, r + k = N ∧ v = .int .i64 (k : Int) ∧ k ≤ 41 ∧ w = wr ∧ ∀ X ∈ L.take k, X.ts.length ≤ 20 ∧ ∀ s ∈ X.ts, s.length ≤ 100)
  case atStart => exact ⟨0, by omega, rfl, by omega, rfl, fun X hX => by simp at hX⟩
  case round =>
    obtain ⟨k, hk, rfl, hk41, rfl, hok⟩ := hrel
    have HK := Lib.hid hk
    have HOK := Lib.hid hok
    have hkn : k ≤ N := by omega
    clear hk hok
    by_cases hlt : k < N
    · by_cases h41 : k < 41
      · have hlt2 : k < L.length := by rw [HN.out]; exact hlt
        obtain ⟨X, hX⟩ : ∃ X, L[k]? = some X := ⟨_, List.getElem?_eq_getElem hlt2⟩
        obtain ⟨hok1, hst, blk, off, rfl, hbl, hc⟩ := HR.out k X hX
        have c2 := hc 2 (by decide)
        simp only [racs, List.getElem?_cons_succ, List.getElem?_cons_zero] at c2
        have HST := Lib.hid hst
        have HX := Lib.hid hX
        obtain ⟨T, hT⟩ : ∃ T, X.ts.length = T := ⟨_, rfl⟩
        rw [hT] at c2
        have HT := Lib.hid hT
        clear hc hok1 hst hX hT
        by_cases h20 : T ≤ 20
        · have h20' : ¬ (20 : Int) < (T : Int) := by omega
          go_wp2_with fail
          go_loopg [4] T (fun r v wr => ∃ j : Nat, r + j = T ∧ v = .int .i64 (j : Int) ∧ w = wr ∧ ∀ s ∈ X.ts.take j, s.length ≤ 100)
          case atStart => exact ⟨0, by omega, rfl, rfl, fun s hs => by simp at hs⟩
          case round =>
            obtain ⟨j, hj, rfl, rfl, hjs⟩ := hrel
            have HJ := Lib.hid hj
            have HJS := Lib.hid hjs
            have hjn : j ≤ T := by omega
            clear hj hjs
            by_cases hjl : j < T
            · have hjl2 : j < X.ts.length := by rw [HT.out]; exact hjl
              obtain ⟨s, hs⟩ : ∃ s, X.ts[j]? = some s := ⟨_, List.getElem?_eq_getElem hjl2⟩
              obtain ⟨tbk, tof, hp, htl, hcs⟩ := HST.out.at_ hs
              rw [hp] at c2
              have hsz : (⟨s.toArray⟩ : ByteArray).size = s.length := by show s.toArray.size = _; simp
              have HS := Lib.hid hs
              have HSZ := Lib.hid hsz
              clear hs hp
              generalize (⟨s.toArray⟩ : ByteArray) = sb at *
              by_cases h100 : sb.size ≤ 100
              · have h100' : ¬ (100 : Int) < (sb.size : Int) := by omega
                clear hsz
                go_wp2_with fail
                go_roundg (T - (j + 1))
                case measure => have := HJ.out; omega
                case rel =>
                  refine ⟨j + 1, by omega, by go_num, rfl, fun s' hs' => ?_⟩
                  rw [List.take_add_one, HS.out] at hs'
                  rcases List.mem_append.1 hs' with h | h
                  · exact HJS.out s' h
                  · simp at h
                    rw [h, ← HSZ.out]
                    exact h100
              · have h100' : (100 : Int) < (sb.size : Int) := by omega
                clear hsz
                go_wp2_with fail
                go_ret
                have hF : fewB L = false := fewB_no (fun h => by
                  have := (h.2 X (List.mem_of_getElem? HX.out)).2 s (List.mem_of_getElem? HS.out)
                  rw [← HSZ.out] at this
                  omega)
                exact ⟨by rw [hF]; first | done | rfl, rfl⟩
            · obtain rfl : j = T := by omega
              go_wp2_with fail
              go_roundg (N - (k + 1))
              case measure => have := HK.out; omega
              case rel =>
                refine ⟨k + 1, by omega, by go_num, by omega, rfl, fun Y hY => ?_⟩
                rw [List.take_add_one, HX.out] at hY
                rcases List.mem_append.1 hY with h | h
                · exact HOK.out Y h
                · simp at h
                  rw [h]
                  refine ⟨by rw [HT.out]; exact h20, fun s hs => HJS.out s ?_⟩
                  rw [List.take_of_length_le (by rw [HT.out]; exact Nat.le_refl _)]
                  exact hs
        · have h20' : (20 : Int) < (T : Int) := by omega
          go_wp2_with fail
          go_ret
          have hF : fewB L = false := fewB_no (fun h => by
            have := (h.2 X (List.mem_of_getElem? HX.out)).1
            rw [HT.out] at this
            omega)
          exact ⟨by rw [hF]; first | done | rfl, rfl⟩
      · obtain rfl : k = 41 := by omega
        have h40 : decide ((N : Int) ≤ 40) = false := decide_eq_false (by omega)
        have h40b : ¬ (N : Int) ≤ 40 := by omega
        go_wp2_with fail
        go_ret
        have hF : fewB L = false := fewB_no (fun h => by
          have := h.1
          rw [HN.out] at this
          omega)
        exact ⟨by rw [hF]; first | done | rfl | simp, rfl⟩
    · obtain rfl : k = N := by omega
      go_wp2_with fail
      go_ret
      have hF : fewB L = decide ((k : Int) ≤ 40) := by
        unfold fewB
        refine decide_eq_decide.2 ⟨fun h => by have := h.1; rw [HN.out] at this; omega, fun h => ⟨by rw [HN.out]; omega, fun X hX => HOK.out X ?_⟩⟩
        rw [List.take_of_length_le (by rw [HN.out]; exact Nat.le_refl _)]
        exact hX
      exact ⟨by rw [hF]; first | done | rfl, rfl⟩
theorem names_find {most R : Int} {l : Nms} (hw : Wf most R l) {x : List UInt8} (h : x ∈ namesL l) : ∃ n : Nat, findM l x = ((n : Int), 0) ∧ liveB l n = true ∧ (nmAt l n).1 = x ∧ x.length ≤ 64 := by
  unfold namesL at h
  rw [List.mem_mergeSort] at h
  unfold liveTexts at h
  obtain ⟨y, hy, rfl⟩ := List.mem_map.1 h
  obtain ⟨hy, hl⟩ := List.mem_filter.1 hy
  obtain ⟨i, hi, rfl⟩ := List.mem_iff_getElem.1 hy
  have hn : nmAt l i = l[i] := nmAt_of (List.getElem?_eq_getElem hi)
  have hlv : liveB l i = true := by unfold liveB; rw [hn]; exact hl
  have hv := hw.text i hlv
  rw [hn] at hv
  have hf := findN_of hw.dist hlv (by rw [hn])
  refine ⟨i, ?_, hlv, by rw [hn], ?_⟩
  · unfold findM
    rw [if_pos hv, hf]
  · unfold validB at hv
    rw [Bool.and_eq_true, decide_eq_true_eq, decide_eq_true_eq] at hv
    exact hv.2
theorem numB_lt {k : Nat} (h : k < 65536) : numB (k : Int) = true := by unfold numB; simp; omega
set_option maxHeartbeats 8000000 in
set_option maxRecDepth 100000 in
theorem holds_any {V w : World} {S : Nat → Prop} {x : Nat} {most seed R : Int} {n : Nat} {d : Dx} (k : Kr V w S x most seed R n d) (hn : n ≤ 10000) (hlv : liveN d.nm ≤ 100000) :
    Calls Try.prog 24 #[.pointer (some ⟨x, 0, none⟩)] w (KrP V w S x most seed R n d) := by
  have HK0 := Lib.hid (fun w' hb => KrP.quiet (w' := w') k hb)
  have HKN := Lib.hid k.knowns
  have HK := Lib.hid (fun w' (hb : Below w.heap.size w w') => k.quiet hb)
  obtain ⟨hiw, hsl, -, -, hm2, hlb⟩ := k.facts
  have HM2 := Lib.hid hm2
  have hnl := namesL_len d.nm
  obtain ⟨L, hL⟩ : ∃ L, namesL d.nm = L := ⟨_, rfl⟩
  rw [hL] at HKN hnl
  have HL := Lib.hid hL
  have HIW := Lib.hid hiw
  obtain ⟨N, hN⟩ : ∃ N, L.length = N := ⟨_, rfl⟩
  rw [hN] at HKN hnl
  have HN := Lib.hid hN
  have hNb : N ≤ 100000 := by omega
  have HLB := Lib.hid hlb
  obtain ⟨iu, hiu, hpu⟩ := Option.map_eq_some_iff.1 u64Info
  have hu0 : iu.zero = some (.int .u64 0) := congrArg (·.1) hpu
  have hu1 : iu.size = 1 := congrArg (·.2.1) hpu
  have hu2 : iu.bytes = 8 := congrArg (·.2.2) hpu
  clear k hiw hL hN hpu hlb hnl hm2
  go_enter Try.func24, Try.ntmps24
  go_wp2_with (go_at_call 23; refine HKN.out.mono ?_; rintro e w1 ⟨v1, rfl, hv1, b1, _⟩; obtain ⟨p1, c1, rfl⟩ := owns_form hv1)
  have HV1 := Lib.hid hv1
  have HB1 := Lib.hid b1
  clear hv1 b1 HKN
  go_loopg [4] N (fun r v wr => ∃ i : Nat, r + i = N ∧ v = .int .i64 (i : Int) ∧ Below w1.heap.size w1 wr)
  case atStart => exact ⟨0, by omega, rfl, Below.refl _ _⟩
  case round =>
    obtain ⟨i, hi, rfl, hbr⟩ := hrel
    have HI := Lib.hid hi
    have HBR := Lib.hid hbr
    have hin : i ≤ N := by omega
    have hbw : Below w.heap.size w wr := HB1.out.trans (hbr.mono HB1.out.size)
    have HBW := Lib.hid hbw
    clear hi hbr hbw
    by_cases hlt : i < N
    · have hlt2 : i < L.length := by rw [HN.out]; exact hlt
      obtain ⟨s, hs⟩ : ∃ s, L[i] = s := ⟨_, rfl⟩
      obtain ⟨m, hm1, hm2', hm3, hm4⟩ := names_find HIW.out.wf (x := s) (by rw [HL.out, ← hs]; exact List.getElem_mem hlt2)
      obtain ⟨g1, cc, hvf, _, hg1⟩ := HV1.out.form (by omega)
      injection hvf with h1 h2 h3
      subst h1 h3
      have hc := (HBR.out.cell (p := ⟨g1, i, none⟩) hg1).trans (HV1.out.cellAt i (by omega))
      rw [List.getElem?_map, List.getElem?_eq_getElem hlt2, hs] at hc
      change wr.cell? ⟨g1, i, none⟩ = some (.string ⟨s.toArray⟩) at hc
      have hsz : (⟨s.toArray⟩ : ByteArray).size ≤ 140737488355328 := by show s.toArray.size ≤ _; simp; omega
      have hdat : (⟨s.toArray⟩ : ByteArray).data.toList = s := by simp
      have hm5 : m < 65536 := by have := live_lt hm2'; have := HIW.out.wf.size; have := HM2.out; omega
      have hright := HIW.out.right hm2'
      have hne := HIW.out.right_ne hm2'
      rw [hm3] at hright hne
      have HFN := Lib.hid (fun w' hb => (HK.out w' hb))
      have HG1 := Lib.hid hg1
      generalize (⟨s.toArray⟩ : ByteArray) = sb at hc hsz hdat
      have HDAT := Lib.hid hdat
      have HM1 := Lib.hid hm1
      have HRIGHT := Lib.hid hright
      have HNE := Lib.hid hne
      have hsl5 : slotsN d.sl (m : Int) = ofX d.sl m := by unfold slotsN; rw [if_pos (numB_lt hm5), Int.toNat_natCast]
      have hnb : (if numB (m : Int) = true then (0 : Int) else 2) = 0 := by rw [if_pos (numB_lt hm5)]
      have HSLN := Lib.hid hsl5
      have HNB := Lib.hid hnb
      clear hs hm1 hm2' hm3 hm4 hdat hright hne h2 hsl5 hnb
      have hkr := HK.out wr HBW.out
      obtain ⟨O, Rd, ⟨tb, lb, sb', own, lm, sm, l0, hry, -⟩, -⟩ := hkr
      have HFIND : Hid (Calls Try.prog 51 #[.pointer (some ⟨x, 0, none⟩), .string sb] wr fun e w' => e = .returned (.tuple #[.int .i64 (m : Int), .int .i64 0]) ∧ Below wr.heap.size wr w') := by
        have := rvfinds_any hry sb hsz
        rw [HDAT.out, HM1.out] at this
        exact this
      have HSLOT : Hid (∀ w', Below wr.heap.size wr w' → Calls Try.prog 52 #[.pointer (some ⟨x, 0, none⟩), .int .i64 (m : Int)] w' (RowP w' 29 (idsV (ofX d.sl m)) 0)) := fun w' hb => by
        have := rvslots_any (hry.below hb) (by omega) (m : Int)
        rw [HSLN.out, HNB.out] at this
        exact this
      have HLIVE := Lib.hid (fun w' (hb : Below wr.heap.size wr w') id hid => rvlive_any (hry.below hb) id hid)
      have HRGT := Lib.hid (fun w' (hb : Below wr.heap.size wr w') => rvright_any (hry.below hb) (by omega) sb hsz)
      have HIDS := Lib.hid (fun u (hu : u ∈ ofX d.sl m) => Iw.ids64 hry hu)
      have hol : (ofX d.sl m).length ≤ 10000 := by have := ofX_len d.sl m; omega
      obtain ⟨M, hM⟩ : ∃ M, ofX d.sl m = M := ⟨_, rfl⟩
      rw [hM] at HSLOT HIDS HRIGHT hol
      obtain ⟨T, hT⟩ : ∃ T, M.length = T := ⟨_, rfl⟩
      have HT := Lib.hid hT
      rw [hT] at hol
      clear hry hM hT HFN
      go_wp2_with (first
        | (go_at_call 51; refine HFIND.out.mono ?_; rintro e w2 ⟨rfl, b2⟩)
        | (go_at_call 52; refine (HSLOT.out _ b2).mono ?_; rintro e w3 ⟨v3, rfl, hv3, b3⟩; rw [List.length_map, HT.out] at hv3; obtain ⟨p3, c3, rfl⟩ := owns_form hv3))
      have hb3 : Below wr.heap.size wr w3 := b2.trans (b3.mono b2.size)
      have HB3 := Lib.hid hb3
      have HV3 := Lib.hid hv3
      clear b2 b3 hb3 hv3 HFIND HSLOT
      obtain ⟨W0, hW0⟩ : ∃ W0, W0 = wr := ⟨_, rfl⟩
      subst wr
      have GK := Lib.hid HI.out
      obtain ⟨GI, hGI⟩ : ∃ GI, gk = GI := ⟨_, rfl⟩
      have HGI := Lib.hid hGI
      clear hGI
      go_loopg [8, 9] T (fun r s8 s9 wr => ∃ (j nf : Nat) (q : Option Addr) (c : Nat), r + j = T ∧ s9 = .int .i64 (j : Int) ∧ s8 = .slice q nf c ∧ nf = ((M.take j).filter fun u => liveE d.all u).length ∧ wr.ownsRow w3.heap.size 29 1 (.slice q nf c) nf (idsV ((M.take j).filter fun u => liveE d.all u)) ∧ Below w3.heap.size w3 wr)
      case atStart => exact ⟨0, 0, none, 0, by omega, rfl, rfl, rfl, World.ownsRow_nil _ _ _ _, Below.refl _ _⟩
      case round =>
        obtain ⟨j, nf, q, c, hj, rfl, rfl, hnf, hrow, hbj⟩ := hrel
        have HJ := Lib.hid hj
        have HNF := Lib.hid hnf
        have HROW := Lib.hid hrow
        have HBJ := Lib.hid hbj
        have hjn : j ≤ T := by omega
        have hnfl : nf ≤ T := by
          rw [hnf]
          refine Nat.le_trans (List.length_filter_le _ _) ?_
          rw [List.length_take]
          omega
        have hb0 : Below W0.heap.size W0 wr := HB3.out.trans (hbj.mono HB3.out.size)
        have HB0 := Lib.hid hb0
        clear hj hnf hrow hbj hb0
        by_cases hjl : j < T
        · have hjl2 : j < M.length := by rw [HT.out]; exact hjl
          obtain ⟨u, hu⟩ : ∃ u, M[j] = u := ⟨_, rfl⟩
          obtain ⟨g3, cc3, hvf, _, hg3⟩ := HV3.out.form (by omega)
          injection hvf with h1 h2 h3
          subst h1 h3
          have hc3 := (HBJ.out.cell (p := ⟨g3, j, none⟩) hg3).trans (HV3.out.cellAt j (by omega))
          rw [List.getElem?_map, List.getElem?_eq_getElem hjl2, hu] at hc3
          change wr.cell? ⟨g3, j, none⟩ = some (.int .u64 (u : Int)) at hc3
          have HLU := HLIVE.out wr HB0.out u (HIDS.out u (by rw [← hu]; exact List.getElem_mem hjl2))
          have htk : M.take (j + 1) = M.take j ++ [u] := by rw [List.take_add_one, List.getElem?_eq_getElem hjl2, hu]; rfl
          have HTK := Lib.hid htk
          clear hu h2 htk
          cases hlu : liveE d.all u with
          | false =>
            rw [hlu] at HLU
            have HLU := Lib.hid HLU
            have HFL : Hid ((M.take (j + 1)).filter (fun u => liveE d.all u) = (M.take j).filter (fun u => liveE d.all u)) := by unfold Hid; rw [HTK.out, List.filter_append]; simp [hlu]
            clear hlu
            go_wp2_with (go_at_call 21; refine HLU.out.mono ?_; rintro e w4 ⟨rfl, b4⟩)
            go_roundg (T - (j + 1))
            case measure => have := HJ.out; omega
            case rel => exact ⟨j + 1, nf, q, c, by omega, by go_num, rfl, by rw [HFL.out]; exact HNF.out, by rw [HFL.out]; exact ownsRow_below HROW.out b4, HBJ.out.trans (b4.mono HBJ.out.size)⟩
          | true =>
            rw [hlu] at HLU
            have HLU := Lib.hid HLU
            have HFL : Hid ((M.take (j + 1)).filter (fun u => liveE d.all u) = (M.take j).filter (fun u => liveE d.all u) ++ [u]) := by unfold Hid; rw [HTK.out, List.filter_append]; simp [hlu]
            clear hlu
            go_wp2_with (first
              | (go_at_call 21; refine HLU.out.mono ?_; rintro e w4 ⟨rfl, b4⟩; have hc4 := (b4.cell (p := ⟨g3, j, none⟩) (Nat.lt_of_lt_of_le hg3 HBJ.out.size)).trans hc3; have R4 := Lib.hid (ownsRow_below HROW.out b4))
              | (at_builtin; refine wpList_append_own_at _ rfl _ _ 30 rfl w3.heap.size 29 iu (.int .u64 0) 1 8 Try.underlying30 hiu hu0 hu1 hu2 rfl (by decide) _ _ _ rfl (R4.out.alloc _) ⟨w4.heap.size, 0, none⟩ 1 1 [.int .u64 (u : Int)] rfl rfl ?c1 ?c2 ?c3 ?c4 ?c5 ?_))
            case c1 => exact cell_one_new _ _ _
            case c2 => exact one_int _ _
            case c3 => unfold maxLen; omega
            case c4 => omega
            case c5 => have := HBJ.out.size; have := b4.size; simp; omega
            intro v' w5 hown hg5 _ _
            obtain ⟨q', c', rfl⟩ := owns_form hown
            have hb5 : Below w3.heap.size w3 w5 := below_append (HBJ.out.trans (b4.mono HBJ.out.size)) (by have := HBJ.out.size; have := b4.size; omega) R4.out hg5
            have HB5 := Lib.hid hb5
            have HOWN := Lib.hid hown
            clear hown hg5 hb5 hc4
            go_wp2_with fail
            go_roundg (T - (j + 1))
            case measure => have := HJ.out; omega
            case rel =>
              refine ⟨j + 1, nf + 1, q', c', by omega, by go_num, rfl, by rw [HFL.out, List.length_append, ← HNF.out]; rfl, ?_, HB5.out⟩
              rw [HFL.out]
              unfold idsV
              rw [List.map_append]
              exact HOWN.out
        · obtain rfl : j = T := by omega
          have hfil : (M.take j).filter (fun u => liveE d.all u) = rightX d.all s := by rw [List.take_of_length_le (by rw [HT.out]; exact Nat.le_refl _)]; exact HRIGHT.out
          rw [hfil] at HROW HNF
          have hnz : ((nf : Int) == 0) = false := by
            rw [beq_eq_false_iff_ne]
            have := List.length_pos_iff.2 HNE.out
            have := HNF.out
            omega
          have hcw := ((HB3.out.trans (HBJ.out.mono HB3.out.size)).cell (p := ⟨g1, i, none⟩) (Nat.lt_of_lt_of_le HG1.out HBR.out.size)).trans hc
          have HRG := HRGT.out wr HB0.out
          rw [HDAT.out] at HRG
          have HRG := Lib.hid HRG
          clear hfil hc
          go_wp2_with (first
            | (go_at_call 26; refine HRG.out.mono ?_; rintro e w6 ⟨v6, rfl, hv6, b6⟩)
            | (go_at_call 53; refine (ids_any _ v6 (rightX d.all s) w6 (Reads.own_ (ownsRow_below HROW.out b6) (by rw [List.length_map]; exact HNF.out) (by rw [List.length_map, ← HNF.out]; omega)) (Reads.own_ hv6 rfl (by rw [List.length_map, ← HNF.out]; omega))).mono ?_; rintro e w7 ⟨rfl, b7⟩))
          go_roundg (GI - 1)
          case measure => have := HI.out; have := HGI.out; omega
          case rel =>
            have hb7 : Below W0.heap.size W0 w7 := (HB0.out.trans (b6.mono HB0.out.size)).trans (b7.mono (Nat.le_trans HB0.out.size b6.size))
            exact ⟨i + 1, by have := HI.out; have := HGI.out; omega, by go_num, HBR.out.trans (hb7.mono HBR.out.size)⟩
    · obtain rfl : i = N := by omega
      go_wp2_with fail
      go_ret
      exact HK0.out _ HBW.out
end Go.Proofs.Ytfpkeinknhijaaa
