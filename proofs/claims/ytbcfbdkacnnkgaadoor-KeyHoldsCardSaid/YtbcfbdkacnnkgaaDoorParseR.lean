/- The contract of the reference's Parse. -/
import Derived.Test.YtbcfbdkacnnkgaaDoorTextD
import Derived.Test.YtbcfbdkacnnkgaaDoorParseP
import Derived.StillTailTactics
import Derived.Laws.BytesString
namespace Go.Proofs.YtbcfbdkacnnkgaaDoor
set_option linter.unusedVariables false
open Go.RowKit

def pRes (o : Option Tx) : Value := match o with
  | some x => .tuple #[.string ⟨x.toArray⟩, .bool true]
  | none => .tuple #[.string ⟨#[]⟩, .bool false]

theorem digit_some (c : UInt8) (a : Nat) (w : World) (h : hexV c = some a) :
    Calls Tryd.prog 46 #[.int .u8 (c.toNat : Int)] w fun e w' => e = .returned (.tuple #[.int .u8 a, .bool true]) ∧ Below w.heap.size w w' := by
  have := refDigit_any c w
  rw [h] at this
  exact this
theorem digit_none (c : UInt8) (w : World) (h : hexV c = none) :
    Calls Tryd.prog 46 #[.int .u8 (c.toNat : Int)] w fun e w' => e = .returned (.tuple #[.int .u8 0, .bool false]) ∧ Below w.heap.size w w' := by
  have := refDigit_any c w
  rw [h] at this
  exact this

theorem refPlain_hex (a b : Nat) (c : UInt8) (hc : c.toNat = 16 * a + b) (w : World) :
    Calls Tryd.prog 45 #[.int .u8 (16 * (a : Int) + (b : Int))] w fun e w' => e = .returned (.bool (okB c)) ∧ w = w' := by
  have := refPlain_any c w
  have e : (c.toNat : Int) = 16 * (a : Int) + (b : Int) := by omega
  rw [e] at this
  exact this

theorem conv_hex (a b : Nat) (c : UInt8) (hc : c.toNat = 16 * a + b) (W : World) :
    Sem.run Tryd.prog (convert 48 9 (.slice (some ⟨W.heap.size, 0, none⟩) 1 1)) (W.alloc (.cells #[.int .u8 (16 * (a : Int) + (b : Int))] 5)) = .ok (.string ⟨[c].toArray⟩) (W.alloc (.cells #[.int .u8 (16 * (a : Int) + (b : Int))] 5)) := by
  rw [run_convert_bytes_string _ 48 9 5 _ _ _ Tryd.underlying48 Tryd.underlying5 Tryd.underlying9]
  rw [run_bytesToString _ _ _ _ [16 * (a : Int) + (b : Int)]]
  · have e : (16 * (a : Int) + (b : Int)).toNat = c.toNat := by omega
    simp only [List.foldl_cons, List.foldl_nil, e, UInt8.ofNat_toNat]
    rfl
  · have h0 := cell_one_new W (.int .u8 (16 * (a : Int) + (b : Int))) 5 0 _ rfl
    simp [loadCells, loadCellsFrom, go_sem]

theorem below_step {B : Nat} {w wr w' : World} (h : Below B w wr) (h2 : Below wr.heap.size wr w') (hB : B ≤ wr.heap.size) : Below B w w' := h.trans (h2.mono hB)

theorem get_at (s : ByteArray) (k : Nat) (h : k < s.size) : s.data.toList[k]? = some s[k] := by
  rw [List.getElem?_eq_getElem (by simpa using h)]; rfl

set_option maxHeartbeats 4000000 in
set_option maxRecDepth 100000 in
theorem refParse_any (s : ByteArray) (hs : s.size ≤ 1000000) (w : World) :
    Calls Tryd.prog 34 #[.string s] w fun e w' => e = .returned (pRes (rParse s.data.toList)) ∧ Below w.heap.size w w' := by
  rcases Bool.eq_false_or_eq_true (s.toList == [34, 34]) with h34 | h34
  · have hr : rParse s.data.toList = some [] := by
      rw [rParse, if_pos]
      rw [← ByteArray.toList_eq]
      exact eq_of_beq h34
    have HR := Lib.hid hr
    clear hr
    go_enter Tryd.func34, Tryd.ntmps34
    go_wp2
    go_ret2
    rw [HR.out]
    exact ⟨rfl, Below.refl _ _⟩
  · have hr : rParse s.data.toList = match rDec s.data.toList with
        | some x => if x = [] ∨ 250 < x.length then none else some x
        | none => none := by
      have hne : ¬ s.data.toList = [34, 34] := by
        intro e
        rw [← ByteArray.toList_eq] at e
        rw [e] at h34
        cases h34
      unfold rParse
      rw [if_neg hne]
      rfl
    have HR := Lib.hid hr
    clear hr
    go_enter Tryd.func34, Tryd.ntmps34
    go_wp2
    go_loopw [4, 5] (fun v i wr => ∃ (k : Nat) (T : Tx), k ≤ s.size ∧ i = .int .i64 k ∧ v = .string ⟨T.toArray⟩ ∧ T.length ≤ k ∧ Hid (RR s.data.toList k T) ∧ Below w.heap.size w wr) (fun _ i _ => s.size - (intOf i).toNat)
    case atStart => exact ⟨0, [], by omega, rfl, rfl, by simp, RR_start _, Below.refl _ _⟩
    case round =>
      obtain ⟨k, T, hk, rfl, rfl, hT, HQ, hbl⟩ := hrel
      by_cases hlt : k < s.size
      · have gk := get_at s k hlt
        have hx : s.extract k (k + 1) = ⟨[s[k]].toArray⟩ := extract_one s k hlt
        rcases Bool.eq_false_or_eq_true (okB s[k]) with hv | hv
        · have HQ2 := Lib.hid (RR_ok _ T k s[k] HQ.out gk hv)
          clear gk HQ
          go_wp2_with (go_at_call 45; refine (refPlain_any _ _).mono ?_; rintro e w' ⟨rfl, rfl⟩)
          go_roundw
          case rel => exact ⟨k + 1, T ++ [s[k]], by omega, by go_num, by rw [← bs_append], by simp; omega, HQ2, hbl⟩
          case measure => simp [intOf]; omega
        · by_cases h37 : s[k] = 37
          · rw [h37] at gk
            by_cases hl3 : s.size < k + 3
            · have HN := Lib.hid (RR_short _ T k 37 HQ.out gk rfl (by simpa using hl3))
              have hl4 : (s.size : Int) - (k : Int) < 3 := by omega
              have c1 : ((s[k].toNat : Int) != 37) = false := by rw [h37]; rfl
              clear gk HQ h37
              go_wp2_with (go_at_call 45; refine (refPlain_any _ _).mono ?_; rintro e w' ⟨rfl, rfl⟩)
              go_ret2
              rw [HR.out, HN.out]
              exact ⟨rfl, hbl⟩
            · have g1 := get_at s (k + 1) (by omega)
              have g2 := get_at s (k + 2) (by omega)
              have hl4 : ¬ ((s.size : Int) - (k : Int) < 3) := by omega
              have c1 : ((s[k].toNat : Int) != 37) = false := by rw [h37]; rfl
              have i1 : (k : Int) + 1 < (s.size : Int) := by omega
              have i2 : (k : Int) + 2 < (s.size : Int) := by omega
              have hk1 : k + 1 < s.size := by omega
              have hk2 : k + 2 < s.size := by omega
              clear h37
              rcases hp : hexV s[k + 1] with _ | a
              · have HN := Lib.hid (RR_bad1 _ T k _ _ HQ.out gk g1 g2 (.inl hp))
                have hd1 : digRes (hexV s[k + 1]) = .tuple #[.int .u8 0, .bool false] := by rw [hp]; rfl
                have hd2 : ∃ u v, digRes (hexV s[k + 2]) = .tuple #[.int .u8 u, .bool v] := by
                  cases hexV s[k + 2] with
                  | none => exact ⟨_, _, rfl⟩
                  | some _ => exact ⟨_, _, rfl⟩
                obtain ⟨u, v, hd2⟩ := hd2
                clear gk g1 g2 HQ hp
                go_wp2_with (first
                  | (go_at_call 45; refine (refPlain_any _ _).mono ?_; rintro e w' ⟨rfl, rfl⟩)
                  | (go_at_call 46; refine (refDigit_any _ _).mono ?_; rintro e w' ⟨rfl, hb1⟩; replace hbl := below_step hbl hb1 hbl.size; clear hb1))
                go_ret2
                rw [HR.out, HN.out]
                exact ⟨rfl, hbl⟩
              · have ha : a < 16 := (hexV_some hp).1
                have hd1 : digRes (hexV s[k + 1]) = .tuple #[.int .u8 a, .bool true] := by rw [hp]; rfl
                rcases hq : hexV s[k + 2] with _ | b
                · have HN := Lib.hid (RR_bad1 _ T k _ _ HQ.out gk g1 g2 (.inr hq))
                  have hd2 : digRes (hexV s[k + 2]) = .tuple #[.int .u8 0, .bool false] := by rw [hq]; rfl
                  clear gk g1 g2 HQ hp hq
                  go_wp2_with (first
                    | (go_at_call 45; refine (refPlain_any _ _).mono ?_; rintro e w' ⟨rfl, rfl⟩)
                    | (go_at_call 46; refine (refDigit_any _ _).mono ?_; rintro e w' ⟨rfl, hb1⟩; replace hbl := below_step hbl hb1 hbl.size; clear hb1))
                  go_ret2
                  rw [HR.out, HN.out]
                  exact ⟨rfl, hbl⟩
                · have hb : b < 16 := (hexV_some hq).1
                  have hd2 : digRes (hexV s[k + 2]) = .tuple #[.int .u8 b, .bool true] := by rw [hq]; rfl
                  have hgood := fun ho => RR_good _ T k _ _ a b HQ.out gk g1 g2 hp hq ho
                  have hbad := fun ho => RR_bad3 _ T k _ _ a b HQ.out gk g1 g2 hp hq ho
                  have hc := hex_nat a b ha hb
                  generalize UInt8.ofNat (16 * a + b) = c at hgood hbad hc
                  have hconv := conv_hex a b c hc
                  have HC := Lib.hid hc
                  rcases Bool.eq_false_or_eq_true (okB c) with ho | ho
                  · have HN := Lib.hid (hbad ho)
                    clear hgood hbad hc gk g1 g2 HQ hp hq
                    go_wp2_with (first
                      | (go_at_call 45; first | (with_reducible refine (refPlain_hex a b c HC.out _).mono ?_; rintro e w' ⟨rfl, rfl⟩) | (refine (refPlain_any _ _).mono ?_; rintro e w' ⟨rfl, rfl⟩))
                      | (go_at_call 46; refine (refDigit_any _ _).mono ?_; rintro e w' ⟨rfl, hb1⟩; replace hbl := below_step hbl hb1 hbl.size; clear hb1))
                    go_ret2
                    rw [HR.out, HN.out]
                    exact ⟨rfl, hbl⟩
                  · have HQ2 := Lib.hid (hgood ho)
                    clear hgood hbad hc gk g1 g2 HQ hp hq
                    go_wp2_with (first
                      | (go_at_call 45; first | (with_reducible refine (refPlain_hex a b c HC.out _).mono ?_; rintro e w' ⟨rfl, rfl⟩) | (refine (refPlain_any _ _).mono ?_; rintro e w' ⟨rfl, rfl⟩))
                      | (go_at_call 46; refine (refDigit_any _ _).mono ?_; rintro e w' ⟨rfl, hb1⟩; replace hbl := below_step hbl hb1 hbl.size; clear hb1))
                    exact ⟨⟨k + 3, T ++ [c], by omega, by congr 1, by rw [← bs_append], by simp; omega, HQ2, hbl.alloc hbl.size _⟩, by simp [intOf]; omega⟩
          · have HN := Lib.hid (RR_bad _ T k s[k] HQ.out gk hv h37)
            have c1 : ((s[k].toNat : Int) != 37) = true := by
              rw [bne_iff_ne]; intro e; exact h37 (UInt8.toNat_inj.1 (by have h' : ((s[k].toNat : Nat) : Int) = 37 := e; show s[k].toNat = 37; omega))
            clear gk HQ h37
            go_wp2_with (go_at_call 45; refine (refPlain_any _ _).mono ?_; rintro e w' ⟨rfl, rfl⟩)
            go_ret2
            rw [HR.out, HN.out]
            exact ⟨rfl, hbl⟩
      · obtain rfl : k = s.size := by omega
        have hend : rDec s.data.toList = some T := by
          apply RR_end
          have e : s.data.toList.length = s.size := by simp
          rw [e]
          exact HQ.out
        by_cases hT0 : T = []
        · subst hT0
          have hn : rParse s.data.toList = none := by
            rw [HR.out, hend]
            exact if_pos (.inl rfl)
          have HN := Lib.hid hn
          clear hn hend HQ
          go_wp2
          go_ret2
          rw [HN.out]
          exact ⟨rfl, hbl⟩
        · have hTe : (⟨T.toArray⟩ : ByteArray).toList.isEmpty = false := by
            rw [ByteArray.toList_eq]
            cases T with
            | nil => exact absurd rfl hT0
            | cons _ _ => rfl
          have hTf : List.isEmpty T = false := by
            cases T with
            | nil => exact absurd rfl hT0
            | cons _ _ => rfl
          by_cases hTl : 250 < T.length
          · have hn : rParse s.data.toList = none := by
              rw [HR.out, hend]
              exact if_pos (.inr hTl)
            have HN := Lib.hid hn
            have hTl2 : (250 : Int) < (T.length : Int) := by omega
            clear hn hend HQ
            go_wp2
            go_ret2
            rw [HN.out]
            exact ⟨rfl, hbl⟩
          · have hn : rParse s.data.toList = some T := by
              rw [HR.out, hend]
              exact if_neg (by rintro (h | h); exact hT0 h; exact hTl h)
            have HN := Lib.hid hn
            have hTl2 : (T.length : Int) ≤ 250 := by omega
            clear hn hend HQ
            go_wp2
            go_ret2
            rw [HN.out]
            exact ⟨rfl, hbl⟩
end Go.Proofs.YtbcfbdkacnnkgaaDoor
