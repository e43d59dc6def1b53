/- The contract of key.Parse. -/
import Derived.Test.YtbcfbdkacnnkgaaDoorTextK
import Derived.Test.YtbcfbdkacnnkgaaDoorParseR
import Derived.Deep.Quiet
import Derived.IntWalk
namespace Go.Proofs.YtbcfbdkacnnkgaaDoor
set_option linter.unusedVariables false
open Go.RowKit

theorem foldl_push (l : Tx) : ∀ r : ByteArray, (l.map (fun c => (c.toNat : Int))).foldl (fun r n => r.push (UInt8.ofNat n.toNat)) r = r ++ ⟨l.toArray⟩ := by
  induction l with
  | nil => intro r; apply ByteArray.ext; simp
  | cons c t ih =>
    intro r
    rw [List.map_cons, List.foldl_cons, ih]
    apply ByteArray.ext
    simp [ByteArray.push]

theorem conv_row (v : Value) (T : Tx) (B : Nat) (W : World) (h : W.ownsRow B 5 1 v T.length (Lib.byteCells T)) :
    Sem.run Tryd.prog (convert 48 9 v) W = .ok (.string ⟨T.toArray⟩) W := by
  rcases h.2 with ⟨rfl, h0⟩ | ⟨g, cap, row, rfl, hg⟩
  · rw [run_convert_bytes_string _ 48 9 5 _ _ _ Tryd.underlying48 Tryd.underlying5 Tryd.underlying9]
    obtain rfl : T = [] := List.eq_nil_of_length_eq_zero h0
    simp [Conv.bytesToString, go_sem]
    rfl
  · rw [run_convert_bytes_string _ 48 9 5 _ _ _ Tryd.underlying48 Tryd.underlying5 Tryd.underlying9]
    rw [run_bytesToString _ _ _ _ (T.map (fun c => (c.toNat : Int)))]
    · rw [foldl_push]
      have e : ByteArray.empty ++ (⟨T.toArray⟩ : ByteArray) = ⟨T.toArray⟩ := by apply ByteArray.ext; simp
      rw [e]
    · have hl := run_loadCells_list (P := Tryd.prog) (w := W) ⟨g, 0, none⟩ (Lib.byteCells T) (fun j u hj => h.cells (g := g) rfl j u hj)
      rw [Lib.byteCells_length] at hl
      have e : (T.map (fun c => (c.toNat : Int))).map (Value.int .u8) = Lib.byteCells T := by
        rw [List.map_map]; rfl
      rw [e]
      exact hl

theorem half_some (c : UInt8) (a : Nat) (h : hexV c = some a) : halfRes (hexV c) = (a : Int) := by rw [h]; rfl
theorem half_none (c : UInt8) (h : hexV c = none) : halfRes (hexV c) = -1 := by rw [h]; rfl
theorem half_ge (o : Option Nat) (h : ∀ a, o = some a → a < 16) : -1 ≤ halfRes o ∧ halfRes o < 16 := by
  cases o with
  | none => exact ⟨by decide, by decide⟩
  | some a =>
    have := h a rfl
    refine ⟨?_, ?_⟩
    · show (-1 : Int) ≤ (a : Int); omega
    · show (a : Int) < 16; omega
theorem shl_or (a b : Nat) (ha : a < 16) (hb : b < 16) : bits .or .i64 ((a : Int) * 16) (b : Int) = 16 * (a : Int) + (b : Int) := by
  have : ∀ (x y : Fin 16), bits .or .i64 (((x.val : Nat) : Int) * 16) ((y.val : Nat) : Int) = 16 * ((x.val : Nat) : Int) + ((y.val : Nat) : Int) := by decide +kernel
  exact this ⟨a, ha⟩ ⟨b, hb⟩

theorem Digits.drewN {w : World} (h : Digits w) (n : Nat) : Digits (w.drewN n) := fun k hk => h k hk

theorem kParse_none (l : Tx) (h : ¬ l = [34, 34]) (hp : pDec l = none) : kParse l = ([], 6) := by
  unfold kParse
  rw [if_neg h, hp]
theorem kParse_some (l x : Tx) (h : ¬ l = [34, 34]) (hp : pDec l = some x) : kParse l = if kText x = (l, 0) then (x, 0) else ([], 6) := by
  unfold kParse
  rw [if_neg h, hp]
theorem one_byte (c : UInt8) : Lib.byteCells [c] = [.int .u8 (c.toNat : Int)] := rfl

set_option maxHeartbeats 4000000 in
set_option maxRecDepth 100000 in
theorem keyParse_any (s : ByteArray) (hs : s.size ≤ 1000000) (w : World) (hD : Digits w) :
    Calls Tryd.prog 36 #[.string s] w fun e w' => e = .returned (.tuple #[.string ⟨(kParse s.data.toList).1.toArray⟩, .int .i64 (kParse s.data.toList).2]) ∧ Below w.heap.size w w' := by
  rcases Bool.eq_false_or_eq_true (s.toList == [34, 34]) with h34 | h34
  · have hr : kParse s.data.toList = ([], 0) := by
      rw [kParse, if_pos]
      rw [← ByteArray.toList_eq]
      exact eq_of_beq h34
    have HR := Lib.hid hr
    clear hr
    go_enter Tryd.func36, Tryd.ntmps36
    go_wp2
    go_ret2
    rw [HR.out]
    exact ⟨rfl, Below.refl _ _⟩
  · have hne : ¬ s.data.toList = [34, 34] := by
      intro e
      rw [← ByteArray.toList_eq] at e
      rw [e] at h34
      cases h34
    have HNE := Lib.hid hne
    have HD := Lib.hid hD
    clear hne hD
    obtain ⟨i0, hi, hz0, hz1, hz2⟩ := info_parts infoByte'
    go_enter Tryd.func36, Tryd.ntmps36
    go_wp2
    go_loopw [4, 5] (fun v i wr => ∃ (k : Nat) (T : Tx), k ≤ s.size ∧ i = .int .i64 k ∧ wr.ownsRow w.heap.size 5 1 v T.length (Lib.byteCells T) ∧ T.length ≤ k ∧ Hid (PP s.data.toList k T) ∧ Below w.heap.size w wr) (fun _ i _ => s.size - (intOf i).toNat)
    case atStart => exact ⟨0, [], by omega, rfl, World.ownsRow_nil _ _ _ _, by simp, PP_start _, Below.refl _ _⟩
    case round =>
      obtain ⟨k, T, hk, rfl, hown, hT, HQ, hbl⟩ := hrel
      have hwr := hbl.size
      by_cases hlt : k < s.size
      · have gk := get_at s k hlt
        by_cases h37 : s[k] = 37
        · rw [h37] at gk
          have c1 : ((s[k].toNat : Int) == 37) = true := by rw [h37]; rfl
          clear h37
          by_cases hl3 : s.size < k + 3
          · have HN := Lib.hid (kParse_none _ HNE.out (PP_short _ T k HQ.out gk (by simpa using hl3)))
            have hl4 : (s.size : Int) ≤ (k : Int) + 2 := by omega
            clear gk HQ
            go_wp2
            go_ret2
            rw [HN.out]
            exact ⟨rfl, hbl⟩
          · have g1 := get_at s (k + 1) (by omega)
            have g2 := get_at s (k + 2) (by omega)
            have hl4 : ¬ ((s.size : Int) ≤ (k : Int) + 2) := by omega
            have hk1 : k + 1 < s.size := by omega
            have hk2 : k + 2 < s.size := by omega
            have w1 : IntKind.i64.wrap ((k : Int) + 1) = (k : Int) + 1 := IntWalk.i64_in _ (by omega)
            have w2 : IntKind.i64.wrap ((k : Int) + 2) = (k : Int) + 2 := IntWalk.i64_in _ (by omega)
            have t1 : ((k : Int) + 1).toNat = k + 1 := by omega
            have t2 : ((k : Int) + 2).toNat = k + 2 := by omega
            have p1 : (0 : Int) ≤ (k : Int) + 1 := by omega
            have p2 : (0 : Int) ≤ (k : Int) + 2 := by omega
            have i1 : (k : Int) + 1 < (s.size : Int) := by omega
            have i2 : (k : Int) + 2 < (s.size : Int) := by omega
            rcases hp : hexV s[k + 1] with _ | a
            · have HN := Lib.hid (kParse_none _ HNE.out (PP_bad _ T k _ _ HQ.out gk g1 g2 (.inl hp)))
              have hh1 := half_none _ hp
              clear gk g1 g2 HQ hp
              go_wp2
              go_quiet ((go_at_call 47; refine Calls.quiet_of_same (half_any _ _ (Digits.drewN (HD.out.below hbl) _))))
              obtain ⟨W1, hW1⟩ : ∃ W1, wr.drewN nq = W1 := ⟨_, rfl⟩
              have hown1 : W1.ownsRow w.heap.size 5 1 u4 T.length (Lib.byteCells T) := by rw [← hW1]; exact hown
              have hbl1 : Below w.heap.size w W1 := by rw [← hW1]; exact below_drewN hbl _
              rw [hW1]
              clear hW1 hown hbl
              go_wp2
              go_ret2
              rw [HN.out]
              exact ⟨rfl, hbl1⟩
            · have ha : a < 16 := (hexV_some hp).1
              have hh1 := half_some _ _ hp
              rcases hq : hexV s[k + 2] with _ | b
              · have HN := Lib.hid (kParse_none _ HNE.out (PP_bad _ T k _ _ HQ.out gk g1 g2 (.inr hq)))
                have hh2 := half_none _ hq
                clear gk g1 g2 HQ hp hq
                go_wp2
                go_quiet ((go_at_call 47; refine Calls.quiet_of_same (half_any _ _ (Digits.drewN (HD.out.below hbl) _))))
                obtain ⟨W1, hW1⟩ : ∃ W1, wr.drewN nq = W1 := ⟨_, rfl⟩
                have hown1 : W1.ownsRow w.heap.size 5 1 u4 T.length (Lib.byteCells T) := by rw [← hW1]; exact hown
                have hbl1 : Below w.heap.size w W1 := by rw [← hW1]; exact below_drewN hbl _
                rw [hW1]
                clear hW1 hown hbl
                go_wp2
                go_ret2
                rw [HN.out]
                exact ⟨rfl, hbl1⟩
              · have hb : b < 16 := (hexV_some hq).1
                have hh2 := half_some _ _ hq
                have hgood := PP_good _ T k _ _ a b HQ.out gk g1 g2 hp hq
                have hc := hex_nat a b ha hb
                generalize UInt8.ofNat (16 * a + b) = c at hgood hc
                have hor : bits .or .i64 ((a : Int) * 16) (b : Int) % 256 = (c.toNat : Int) := by rw [shl_or a b ha hb]; omega
                have HQ2 := Lib.hid hgood
                clear hgood hc gk g1 g2 HQ hp hq
                go_wp2
                go_quiet ((go_at_call 47; refine Calls.quiet_of_same (half_any _ _ (Digits.drewN (HD.out.below hbl) _))))
                obtain ⟨W1, hW1⟩ : ∃ W1, wr.drewN nq = W1 := ⟨_, rfl⟩
                have hown1 : W1.ownsRow w.heap.size 5 1 u4 T.length (Lib.byteCells T) := by rw [← hW1]; exact hown
                have hbl1 : Below w.heap.size w W1 := by rw [← hW1]; exact below_drewN hbl _
                rw [hW1]
                clear hW1 hown hbl
                go_wp2_with (at_builtin; refine wpList_append_own _ rfl _ _ 48 rfl w.heap.size 5 i0 (.int .u8 0) 1 1 Tryd.underlying48 hi hz0 hz1 hz2 rfl (by decide) _ _ _ rfl (hown1.alloc _) ⟨W1.heap.size, 0, none⟩ 1 1 [.int .u8 (c.toNat : Int)] rfl rfl ?c1 ?c2 ?c3 ?c4 ?c5 ?_)
                case c1 => exact cell_one_new _ _ _
                case c2 => exact one_int _ _
                case c3 => unfold maxLen; omega
                case c4 => omega
                case c5 => have := hbl1.size; simp; omega
                intro v' w' hown' hgrow _
                have hbl2 := below_append hbl1 hbl1.size hown1 hgrow
                have hnew : w'.ownsRow w.heap.size 5 1 v' (T ++ [c]).length (Lib.byteCells (T ++ [c])) := by
                  rw [Lib.byteCells_append, List.length_append]
                  exact hown'
                clear hown' hgrow hown1 hbl1
                go_wp2
                exact ⟨⟨k + 3, T ++ [c], by omega, by congr 1, hnew, by simp; omega, HQ2, hbl2⟩, by simp [intOf]; omega⟩
        · have c1 : ((s[k].toNat : Int) == 37) = false := by
            rw [beq_eq_false_iff_ne]; intro e; exact h37 (UInt8.toNat_inj.1 (by have h' : ((s[k].toNat : Nat) : Int) = 37 := e; show s[k].toNat = 37; omega))
          have HQ2 := Lib.hid (PP_plain _ T k s[k] HQ.out gk h37)
          clear gk HQ h37
          go_wp2_with (at_builtin; refine wpList_append_own _ rfl _ _ 48 rfl w.heap.size 5 i0 (.int .u8 0) 1 1 Tryd.underlying48 hi hz0 hz1 hz2 rfl (by decide) _ _ _ rfl (hown.alloc _) ⟨wr.heap.size, 0, none⟩ 1 1 [.int .u8 (s[k].toNat : Int)] rfl rfl ?c1 ?c2 ?c3 ?c4 ?c5 ?_)
          case c1 => exact cell_one_new _ _ _
          case c2 => exact one_int _ _
          case c3 => unfold maxLen; omega
          case c4 => omega
          case c5 => simp; omega
          intro v' w' hown' hgrow _
          have hbl2 := below_append hbl hwr hown hgrow
          have hnew : w'.ownsRow w.heap.size 5 1 v' (T ++ [s[k]]).length (Lib.byteCells (T ++ [s[k]])) := by
            rw [Lib.byteCells_append, List.length_append]
            exact hown'
          clear hown' hgrow hown hbl
          go_wp2
          go_roundw
          case rel => exact ⟨k + 1, T ++ [s[k]], by omega, by go_num, hnew, by simp; omega, HQ2, hbl2⟩
          case measure => simp [intOf]; omega
      · obtain rfl : k = s.size := by omega
        have hend : pDec s.data.toList = some T := by
          apply PP_end
          have e : s.data.toList.length = s.size := by simp
          rw [e]
          exact HQ.out
        have hres := kParse_some _ T HNE.out hend
        have HRES := Lib.hid hres
        have hconv := conv_row _ T _ wr hown
        have hTl : T.length ≤ 1000000 := by omega
        have htx := fun W hW => keyText_any ⟨T.toArray⟩ (by show T.toArray.size ≤ _; simpa using hTl) W hW
        by_cases hk : kText T = (s.data.toList, 0)
        · rw [if_pos hk] at hres
          have HK := Lib.hid hk
          have HRES := Lib.hid hres
          clear hres hk hend HQ
          go_wp2_with (go_at_call 32; refine (keyText_any ⟨T.toArray⟩ (by show T.toArray.size ≤ _; simpa using hTl) _ (HD.out.below hbl)).mono ?_; rintro e w' ⟨rfl, hb1⟩; rw [show (⟨T.toArray⟩ : ByteArray).data.toList = T by simp, HK.out]; replace hown := ownsRow_below hown hb1; have hconv2 := conv_row _ T _ w' hown; replace hbl := below_step hbl hb1 hbl.size; clear hb1)
          go_ret2
          rw [HRES.out]
          exact ⟨rfl, hbl⟩
        · rw [if_neg hk] at hres
          have HRES := Lib.hid hres
          by_cases hlong : 250 < T.length
          · have HK := Lib.hid (kText_long T hlong)
            clear hres hk hend HQ
            go_wp2_with (go_at_call 32; refine (keyText_any ⟨T.toArray⟩ (by show T.toArray.size ≤ _; simpa using hTl) _ (HD.out.below hbl)).mono ?_; rintro e w' ⟨rfl, hb1⟩; rw [show (⟨T.toArray⟩ : ByteArray).data.toList = T by simp, HK.out]; replace hown := ownsRow_below hown hb1; replace hbl := below_step hbl hb1 hbl.size; clear hb1)
            go_ret2
            rw [HRES.out]
            exact ⟨rfl, hbl⟩
          · have hshort := kText_short T (by omega)
            have hx : ¬ rText T = s.data.toList := fun e => hk (by rw [hshort, e])
            have HK := Lib.hid hshort
            have hcmp3 : (rText T == s.toList) = false := by rw [beq_eq_false_iff_ne, ByteArray.toList_eq]; exact hx
            clear hres hk hend HQ hshort hx
            go_wp2_with (go_at_call 32; refine (keyText_any ⟨T.toArray⟩ (by show T.toArray.size ≤ _; simpa using hTl) _ (HD.out.below hbl)).mono ?_; rintro e w' ⟨rfl, hb1⟩; rw [show (⟨T.toArray⟩ : ByteArray).data.toList = T by simp, HK.out]; replace hown := ownsRow_below hown hb1; replace hbl := below_step hbl hb1 hbl.size; clear hb1)
            go_ret2
            rw [HRES.out]
            exact ⟨rfl, hbl⟩
end Go.Proofs.YtbcfbdkacnnkgaaDoor
