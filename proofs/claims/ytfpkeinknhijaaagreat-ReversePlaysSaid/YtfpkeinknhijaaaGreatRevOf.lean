/- few; holds; two indexes of the law's own. -/
import Derived.Test.YtfpkeinknhijaaaGreatOpenT
import Derived.Test.YtfpkeinknhijaaaGreatDixP
namespace Go.Proofs.YtfpkeinknhijaaaGreat
set_option linter.unusedVariables false
open Go.RowKit Go.Maps Go.Sort

theorem RActs.below {W w : World} {q : Option Addr} {L : List Ra} (h : RActs W q L) (hb : Below W.heap.size W w) : RActs w q L := by
  intro i X hX
  obtain ⟨h1, h2, blk, off, h3, h4, h5⟩ := h i X hX
  exact ⟨h1, h2.below hb, blk, off, h3, Nat.lt_of_lt_of_le h4 hb.size, fun j hj => (hb.cell (p := ⟨blk, off + i * 5 + j, none⟩) h4).trans (h5 j hj)⟩
def FewOk (L : List Ra) : Prop := L.length ≤ 40 ∧ ∀ X ∈ L, X.ts.length ≤ 20 ∧ ∀ s ∈ X.ts, s.length ≤ 100
open Classical in
noncomputable def fewB (L : List Ra) : Bool := decide (FewOk L)
open Classical in
theorem fewB_no {L : List Ra} (h : ¬ FewOk L) : fewB L = false := by unfold fewB; exact decide_eq_false h
open Classical in
theorem fewB_yes {L : List Ra} (h : fewB L = true) : FewOk L := by unfold fewB at h; exact of_decide_eq_true h
def FewP (w : World) (L : List Ra) (e : Ending) (w' : World) : Prop := e = .returned (.bool (fewB L)) ∧ w = w'
set_option maxHeartbeats 4000000 in
set_option maxRecDepth 100000 in
theorem few_any (q : Option Addr) (cap : Nat) (L : List Ra) (w : World) (h : RActs w q L) :
    Calls Tryz.prog 16 #[.slice q L.length cap] w (FewP w L) := by
  have HR := Lib.hid h
  obtain ⟨N, hN⟩ : ∃ N, L.length = N := ⟨_, rfl⟩
  have HN := Lib.hid hN
  rw [hN]
  clear h hN
  go_enter Tryz.func16, Tryz.ntmps16
  go_wp2_with fail
  go_loopg [3] N (fun r v wr => ∃ k : Nat, r + k = N ∧ v = .int .i64 (k : Int) ∧ k ≤ 41 ∧ w = wr ∧ ∀ X ∈ L.take k, X.ts.length ≤ 20 ∧ ∀ s ∈ X.ts, s.length ≤ 100)
  case atStart => exact ⟨0, by omega, rfl, by omega, rfl, fun X hX => by simp at hX⟩
  case round =>
    obtain ⟨k, hk, rfl, hk41, rfl, hok⟩ := hrel
    have HK := Lib.hid hk
    have HOK := Lib.hid hok
    have hkn : k ≤ N := by omega
    clear hk hok
    by_cases hlt : k < N
    · by_cases h41 : k < 41
      · have hlt2 : k < L.length := by rw [HN.out]; exact hlt
        obtain ⟨X, hX⟩ : ∃ X, L[k]? = some X := ⟨_, List.getElem?_eq_getElem hlt2⟩
        obtain ⟨hok1, hst, blk, off, rfl, hbl, hc⟩ := HR.out k X hX
        have c2 := hc 2 (by decide)
        simp only [racs, List.getElem?_cons_succ, List.getElem?_cons_zero] at c2
        have HST := Lib.hid hst
        have HX := Lib.hid hX
        obtain ⟨T, hT⟩ : ∃ T, X.ts.length = T := ⟨_, rfl⟩
        rw [hT] at c2
        have HT := Lib.hid hT
        clear hc hok1 hst hX hT
        by_cases h20 : T ≤ 20
        · have h20' : ¬ (20 : Int) < (T : Int) := by omega
          go_wp2_with fail
          go_loopg [4] T (fun r v wr => ∃ j : Nat, r + j = T ∧ v = .int .i64 (j : Int) ∧ w = wr ∧ ∀ s ∈ X.ts.take j, s.length ≤ 100)
          case atStart => exact ⟨0, by omega, rfl, rfl, fun s hs => by simp at hs⟩
          case round =>
            obtain ⟨j, hj, rfl, rfl, hjs⟩ := hrel
            have HJ := Lib.hid hj
            have HJS := Lib.hid hjs
            have hjn : j ≤ T := by omega
            clear hj hjs
            by_cases hjl : j < T
            · have hjl2 : j < X.ts.length := by rw [HT.out]; exact hjl
              obtain ⟨s, hs⟩ : ∃ s, X.ts[j]? = some s := ⟨_, List.getElem?_eq_getElem hjl2⟩
              obtain ⟨tbk, tof, hp, htl, hcs⟩ := HST.out.at_ hs
              rw [hp] at c2
              have hsz : (⟨s.toArray⟩ : ByteArray).size = s.length := by show s.toArray.size = _; simp
              have HS := Lib.hid hs
              have HSZ := Lib.hid hsz
              clear hs hp
              generalize (⟨s.toArray⟩ : ByteArray) = sb at *
              by_cases h100 : sb.size ≤ 100
              · have h100' : ¬ (100 : Int) < (sb.size : Int) := by omega
                clear hsz
                go_wp2_with fail
                go_roundg (T - (j + 1))
                case measure => have := HJ.out; omega
                case rel =>
                  refine ⟨j + 1, by omega, by go_num, rfl, fun s' hs' => ?_⟩
                  rw [List.take_add_one, HS.out] at hs'
                  rcases List.mem_append.1 hs' with h | h
                  · exact HJS.out s' h
                  · simp at h
                    rw [h, ← HSZ.out]
                    exact h100
              · have h100' : (100 : Int) < (sb.size : Int) := by omega
                clear hsz
                go_wp2_with fail
                go_ret
                have hF : fewB L = false := fewB_no (fun h => by
                  have := (h.2 X (List.mem_of_getElem? HX.out)).2 s (List.mem_of_getElem? HS.out)
                  rw [← HSZ.out] at this
                  omega)
                exact ⟨by rw [hF]; first | done | rfl, rfl⟩
            · obtain rfl : j = T := by omega
              go_wp2_with fail
              go_roundg (N - (k + 1))
              case measure => have := HK.out; omega
              case rel =>
                refine ⟨k + 1, by omega, by go_num, by omega, rfl, fun Y hY => ?_⟩
                rw [List.take_add_one, HX.out] at hY
                rcases List.mem_append.1 hY with h | h
                · exact HOK.out Y h
                · simp at h
                  rw [h]
                  refine ⟨by rw [HT.out]; exact h20, fun s hs => HJS.out s ?_⟩
                  rw [List.take_of_length_le (by rw [HT.out]; exact Nat.le_refl _)]
                  exact hs
        · have h20' : (20 : Int) < (T : Int) := by omega
          go_wp2_with fail
          go_ret
          have hF : fewB L = false := fewB_no (fun h => by
            have := (h.2 X (List.mem_of_getElem? HX.out)).1
            rw [HT.out] at this
            omega)
          exact ⟨by rw [hF]; first | done | rfl, rfl⟩
      · obtain rfl : k = 41 := by omega
        have h40 : decide ((N : Int) ≤ 40) = false := decide_eq_false (by omega)
        have h40b : ¬ (N : Int) ≤ 40 := by omega
        go_wp2_with fail
        go_ret
        have hF : fewB L = false := fewB_no (fun h => by
          have := h.1
          rw [HN.out] at this
          omega)
        exact ⟨by rw [hF]; first | done | rfl | simp, rfl⟩
    · obtain rfl : k = N := by omega
      go_wp2_with fail
      go_ret
      have hF : fewB L = decide ((k : Int) ≤ 40) := by
        unfold fewB
        refine decide_eq_decide.2 ⟨fun h => by have := h.1; rw [HN.out] at this; omega, fun h => ⟨by rw [HN.out]; omega, fun X hX => HOK.out X ?_⟩⟩
        rw [List.take_of_length_le (by rw [HN.out]; exact Nat.le_refl _)]
        exact hX
      exact ⟨by rw [hF]; first | done | rfl, rfl⟩
theorem names_find {most R : Int} {l : Nms} (hw : Wf most R l) {x : List UInt8} (h : x ∈ namesL l) : ∃ n : Nat, findM l x = ((n : Int), 0) ∧ liveB l n = true ∧ (nmAt l n).1 = x ∧ x.length ≤ 64 := by
  unfold namesL at h
  rw [List.mem_mergeSort] at h
  unfold liveTexts at h
  obtain ⟨y, hy, rfl⟩ := List.mem_map.1 h
  obtain ⟨hy, hl⟩ := List.mem_filter.1 hy
  obtain ⟨i, hi, rfl⟩ := List.mem_iff_getElem.1 hy
  have hn : nmAt l i = l[i] := nmAt_of (List.getElem?_eq_getElem hi)
  have hlv : liveB l i = true := by unfold liveB; rw [hn]; exact hl
  have hv := hw.text i hlv
  rw [hn] at hv
  have hf := findN_of hw.dist hlv (by rw [hn])
  refine ⟨i, ?_, hlv, by rw [hn], ?_⟩
  · unfold findM
    rw [if_pos hv, hf]
  · unfold validB at hv
    rw [Bool.and_eq_true, decide_eq_true_eq, decide_eq_true_eq] at hv
    exact hv.2
end Go.Proofs.YtfpkeinknhijaaaGreat
