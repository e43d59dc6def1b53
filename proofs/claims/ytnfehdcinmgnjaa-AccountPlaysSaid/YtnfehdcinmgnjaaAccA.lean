/- Contracts of account's methods. -/
import Derived.Test.YtnfehdcinmgnjaaShelf
import Derived.Test.YtnfehdcinmgnjaaRows
import Derived.Test.YtnfehdcinmgnjaaStrs
import Derived.Test.YtnfehdcinmgnjaaBlk
import Derived.Test.YtnfehdcinmgnjaaAccP
import Derived.WalkKit
import Derived.ProofKit
import Derived.OpenShut
import Derived.Handy
import Derived.Outline
import Derived.Lib.Hide
import Derived.Deep.QuietTactic
import Derived.BigQuiet
import Derived.Deep.RegionWith
import Derived.Deep.RegionHeld3
import Derived.StillTailTactics
namespace Go.Proofs.Ytnfehdcinmgnjaa
set_option linter.unusedVariables false
open Go.RowKit

/-- Block b holds the account A. -/
def AccAt (w : World) (b : Nat) (A : Ac) : Prop := Blk w b 56 #[.int .i64 A.bb, .int .i64 A.be, .int .i64 A.ub, .int .i64 A.ue]
theorem AccAt.cells {w : World} {b : Nat} {A : Ac} (h : AccAt w b A) : w.cell? ⟨b, 0, none⟩ = some (.int .i64 A.bb) ∧ w.cell? ⟨b, 1, none⟩ = some (.int .i64 A.be) ∧ w.cell? ⟨b, 2, none⟩ = some (.int .i64 A.ub) ∧ w.cell? ⟨b, 3, none⟩ = some (.int .i64 A.ue) :=
  ⟨Blk.cell h 0, Blk.cell h 1, Blk.cell h 2, Blk.cell h 3⟩

set_option maxHeartbeats 1000000 in
theorem zero_nil (w : World) : Calls Try.prog 33 #[.pointer none] w fun e w' => e = .returned (.bool true) ∧ w = w' := by
  go_enter Try.func33, Try.ntmps33
  go_wp2
  go_ret
  exact ⟨rfl, rfl⟩
set_option maxHeartbeats 1000000 in
theorem zero_at (b : Nat) (A : Ac) (w : World) (h : AccAt w b A) (hb : 1 ≤ A.bb) : Calls Try.prog 33 #[.pointer (some ⟨b, 0, none⟩)] w fun e w' => e = .returned (.bool false) ∧ w = w' := by
  obtain ⟨c0, c1, c2, c3⟩ := h.cells
  have h0 : (A.bb == 0) = false := by rw [beq_eq_false_iff_ne]; omega
  go_enter Try.func33, Try.ntmps33
  go_wp2
  go_ret
  exact ⟨by simp, rfl⟩
set_option maxHeartbeats 1000000 in
theorem zero_zero (b : Nat) (A : Ac) (w : World) (h : AccAt w b A) (hb : A.bb = 0) (he : A.be = 0) : Calls Try.prog 33 #[.pointer (some ⟨b, 0, none⟩)] w fun e w' => e = .returned (.bool true) ∧ w = w' := by
  obtain ⟨c0, c1, c2, c3⟩ := h.cells
  rw [hb] at c0
  rw [he] at c1
  clear hb he
  go_enter Try.func33, Try.ntmps33
  go_wp2
  go_ret
  exact ⟨by simp, rfl⟩
set_option maxHeartbeats 1000000 in
theorem minus_any (a b c d : Int) (h1 : -9223372036854775808 ≤ a - c) (h2 : a - c ≤ 9223372036854775807) (h3 : -9223372036854775808 ≤ b - d) (h4 : b - d ≤ 9223372036854775807) (w : World) :
    Calls Try.prog 31 #[.agg #[.int .i64 a, .int .i64 b], .agg #[.int .i64 c, .int .i64 d]] w fun e w' => e = .returned (.agg #[.int .i64 (a - c), .int .i64 (b - d)]) ∧ Below w.heap.size w w' := by
  go_enter Try.func31, Try.ntmps31
  go_wp2
  refine bodyPost_ret (v := .agg #[.int .i64 (a - c), .int .i64 (b - d)]) (by simp [results, Try.results31, go_sem]) rfl ⟨rfl, ?_⟩
  repeat (first | exact Below.refl _ _ | refine Below.setCell ?_ (by simp <;> omega) _ | refine Below.alloc ?_ (by simp <;> omega) _)
set_option maxHeartbeats 1000000 in
theorem right_any (a b : Int) (h1 : -1000000000000 ≤ b) (h2 : b ≤ 1000000000000) (w : World) :
    Calls Try.prog 34 #[.agg #[.int .i64 a, .int .i64 b]] w fun e w' => e = .returned (.bool (fitsIn a b)) ∧ Below w.heap.size w w' := by
  have hf : fitsIn a b = true ↔ 0 ≤ b ∧ 65 * b ≤ a ∧ a ≤ 67000 * b := by simp [fitsIn]
  have HF := Lib.hid hf
  clear hf
  go_enter Try.func34, Try.ntmps34
  go_wp2
  all_goals
    go_ret
    refine ⟨?_, (Below.refl _ _).alloc (Nat.le_refl _) _⟩
    congr 2
    have hf := HF.out
    cases hc : fitsIn a b with
    | true => have := hf.1 hc; first | (simp; done) | (simp; omega)
    | false =>
      have : ¬ (0 ≤ b ∧ 65 * b ≤ a ∧ a ≤ 67000 * b) := fun h => by rw [hf.2 h] at hc; cases hc
      first | (simp; done) | (simp; omega)

def costsOk (l : List Int) : Bool := l.all isCost
def chkE (l : List Int) : Int := if costsOk l = true then 0 else 3
theorem chkE_yes {l : List Int} (h : costsOk l = true) : chkE l = 0 := by simp [chkE, h]
theorem chkE_no {l : List Int} (h : costsOk l = false) : chkE l = 3 := by simp [chkE, h]
theorem costsOk_not (l : List Int) (k : Nat) (c : Int) (h : l[k]? = some c) (hc : isCost c = false) : costsOk l = false := by
  cases hh : costsOk l with
  | false => rfl
  | true =>
    have := List.all_eq_true.1 hh c (List.mem_of_getElem? h)
    rw [hc] at this
    cases this

set_option maxHeartbeats 1000000 in
theorem check_any (b : Nat) (A : Ac) (l : List Int) (v : Value) (w : World) (h : AccAt w b A) (hb : 1 ≤ A.bb) (hr : Reads w v (l.map (Value.int .i64))) :
    Calls Try.prog 30 #[.pointer (some ⟨b, 0, none⟩), v] w fun e w' => e = .returned (.int .i64 (chkE l)) ∧ w = w' := by
  obtain ⟨p, cap, rfl, hl, h2⟩ := hr
  rw [List.length_map] at hl h2 ⊢
  have hcells : ∀ i x, l[i]? = some x → ∃ blk off, p = some ⟨blk, off, none⟩ ∧ w.cell? ⟨blk, off + i, none⟩ = some (.int .i64 x) := by
    intro i x hx
    rcases h2 with h0 | ⟨blk, off, hp, _, _, hc⟩
    · rw [List.eq_nil_of_length_eq_zero h0] at hx; cases hx
    · exact ⟨blk, off, hp, hc i _ (by rw [List.getElem?_map, hx]; rfl)⟩
  have HC := Lib.hid hcells
  have HA := Lib.hid h
  clear hcells h2 h
  go_enter Try.func30, Try.ntmps30
  go_wp2_with (go_at_call 33; refine (zero_at b A _ HA.out hb).mono ?_; rintro e w' ⟨rfl, rfl⟩)
  go_loop [11] (fun i => ∃ k : Nat, k ≤ l.length ∧ i = .int .i64 k ∧ Hid (∀ j c, j < k → l[j]? = some c → isCost c = true)) (fun i => l.length - (intOf i).toNat)
  case atStart => exact ⟨0, Nat.zero_le _, rfl, fun j c hj => by omega⟩
  case round =>
    obtain ⟨k, hk, rfl, HK⟩ := hrel
    by_cases hlt : k < l.length
    · obtain ⟨c, hc⟩ : ∃ c, l[k]? = some c := ⟨l[k], List.getElem?_eq_getElem hlt⟩
      obtain ⟨blk, off, rfl, hcell⟩ := HC.out k c hc
      cases hcc : isCost c with
      | true =>
        have h3 := (isCost_iff c).1 hcc
        obtain ⟨h3, h4⟩ := h3
        have HK2 : Hid (∀ j c, j < k + 1 → l[j]? = some c → isCost c = true) := fun j c' hj hc' => by
          rcases Nat.lt_succ_iff_lt_or_eq.1 hj with h | h
          · exact HK.out j c' h hc'
          · subst h
            rw [hc] at hc'
            cases hc'
            exact hcc
        clear hc hcc HK
        go_wp2
        go_round
        case rel => exact ⟨k + 1, by omega, by go_num, HK2⟩
        case measure => simp [intOf]; omega
      | false =>
        have hbad := Lib.hid (chkE_no (costsOk_not l k c hc hcc))
        have h3 := (isCost_not c).1 hcc
        clear hc hcc HK
        rcases h3 with h3 | h3
        all_goals
          go_wp2
          go_ret
          exact ⟨by rw [hbad.out]; rfl, rfl⟩
    · obtain rfl : k = l.length := by omega
      have hok : costsOk l = true := List.all_eq_true.2 fun x hx => by
        obtain ⟨j, hj⟩ := List.getElem?_of_mem hx
        exact HK.out j x (by
          rcases Nat.lt_or_ge j l.length with h | h
          · exact h
          · rw [List.getElem?_eq_none h] at hj; cases hj) hj
      have HO := Lib.hid (chkE_yes hok)
      clear hok HK hlt
      go_wp2
      go_ret
      exact ⟨by rw [HO.out]; rfl, rfl⟩

theorem lit_one (w : World) (c : Int) : Reads (w.alloc (.cells #[.int .i64 c] 3)) (.slice (some ⟨w.heap.size, 0, none⟩) 1 1) ([c].map (Value.int .i64)) := by
  have h := ownsRow_whole (w := w) (e := 3) (xs := [Value.int .i64 c]) (cur := #[.int .i64 c]) rfl (by simp [maxLen])
  exact Reads.of_own (base := w.heap.size) (e := 3) h (by simp)
theorem lit_two (w : World) (c d : Int) : Reads (w.alloc (.cells #[.int .i64 c, .int .i64 d] 3)) (.slice (some ⟨w.heap.size, 0, none⟩) 2 2) ([c, d].map (Value.int .i64)) := by
  have h := ownsRow_whole (w := w) (e := 3) (xs := [Value.int .i64 c, Value.int .i64 d]) (cur := #[.int .i64 c, .int .i64 d]) rfl (by simp [maxLen])
  exact Reads.of_own (base := w.heap.size) (e := 3) h (by simp)

theorem check_one (b : Nat) (A : Ac) (c : Int) (w : World) (h : AccAt w b A) (hb : 1 ≤ A.bb) :
    Calls Try.prog 30 #[.pointer (some ⟨b, 0, none⟩), .slice (some ⟨w.heap.size, 0, none⟩) 1 1] (w.alloc (.cells #[.int .i64 c] 3)) fun e w' => e = .returned (.int .i64 (if isCost c = true then 0 else 3)) ∧ w.alloc (.cells #[.int .i64 c] 3) = w' := by
  have := check_any b A [c] _ _ (Blk.alloc h _) hb (lit_one w c)
  simpa [chkE, costsOk] using this
theorem check_two (b : Nat) (A : Ac) (c d : Int) (w : World) (h : AccAt w b A) (hb : 1 ≤ A.bb) :
    Calls Try.prog 30 #[.pointer (some ⟨b, 0, none⟩), .slice (some ⟨w.heap.size, 0, none⟩) 2 2] (w.alloc (.cells #[.int .i64 c, .int .i64 d] 3)) fun e w' => e = .returned (.int .i64 (if (isCost c && isCost d) = true then 0 else 3)) ∧ w.alloc (.cells #[.int .i64 c, .int .i64 d] 3) = w' := by
  have := check_any b A [c, d] _ _ (Blk.alloc h _) hb (lit_two w c d)
  simpa [chkE, costsOk] using this

set_option maxHeartbeats 2000000 in
theorem add_any (b : Nat) (A : Ac) (c : Int) (w : World) (h : AccAt w b A) (hA : AcOk A) (hc1 : -9223372036854775808 ≤ c) (hc2 : c ≤ 9223372036854775807) :
    Calls Try.prog 12 #[.pointer (some ⟨b, 0, none⟩), .int .i64 c] w fun e w' => e = .returned (.int .i64 (acAdd A c).2) ∧ AccAt w' b (acAdd A c).1 ∧ w.grownBy w' (some b) := by
  have hb0 := hA.b0
  have hu0 := hA.u0
  have hu1 := hA.u1
  have hs0 := hA.s0
  have hs1 := hA.s1
  have hbw := Blk.lt h
  cases hc : isCost c with
  | false =>
    have HE := Lib.hid (acAdd_bad (A := A) hc)
    have HC : Hid (∀ W, AccAt W b A → Calls Try.prog 30 #[.pointer (some ⟨b, 0, none⟩), .slice (some ⟨W.heap.size, 0, none⟩) 1 1] (W.alloc (.cells #[.int .i64 c] 3)) fun e w' => e = .returned (.int .i64 3) ∧ W.alloc (.cells #[.int .i64 c] 3) = w') := fun W hW => by
      have := check_one b A c W hW hb0
      rwa [hc] at this
    have H := Lib.hid h
    clear hc h
    go_enter Try.func12, Try.ntmps12
    go_wp2_with (go_at_call 30; refine (HC.out _ H.out).mono ?_; rintro e w' ⟨rfl, rfl⟩)
    go_ret
    rw [HE.out]
    exact ⟨rfl, Blk.alloc H.out _, only_alloc (only_refl _ _) _⟩
  | true =>
    have h3 := (isCost_iff c).1 hc
    obtain ⟨h3, h4⟩ := h3
    have HC : Hid (∀ W, AccAt W b A → Calls Try.prog 30 #[.pointer (some ⟨b, 0, none⟩), .slice (some ⟨W.heap.size, 0, none⟩) 1 1] (W.alloc (.cells #[.int .i64 c] 3)) fun e w' => e = .returned (.int .i64 0) ∧ W.alloc (.cells #[.int .i64 c] 3) = w') := fun W hW => by
      have := check_one b A c W hW hb0
      rwa [hc] at this
    have H := Lib.hid h
    rcases Int.lt_or_le A.ue 2097152 with h2 | h2
    · have HE := Lib.hid (acAdd_ok hc h2)
      clear hc h
      go_enter Try.func12, Try.ntmps12
      go_wp2_with fail
      refine (HC.out _ H.out).mono ?_
      rintro e w' ⟨rfl, rfl⟩
      have h5 : AccAt (w.alloc (.cells #[.int .i64 c] 3)) b A := Blk.alloc H.out _
      have hg : w.grownBy (w.alloc (.cells #[.int .i64 c] 3)) (some b) := only_alloc (only_refl _ _) _
      obtain ⟨W, hW⟩ : ∃ W, w.alloc (.cells #[.int .i64 c] 3) = W := ⟨_, rfl⟩
      rw [hW] at h5 hg ⊢
      clear hW
      obtain ⟨c0, c1, c2, c3⟩ := h5.cells
      have hm : Hid (∀ w, Calls Try.prog 31 #[.agg #[.int .i64 A.ub, .int .i64 A.ue], .agg #[.int .i64 (-c), .int .i64 (-1)]] w fun e w' => e = .returned (.agg #[.int .i64 (A.ub + c), .int .i64 (A.ue + 1)]) ∧ Below w.heap.size w w') := fun w => by
        have := minus_any A.ub A.ue (-c) (-1) (by omega) (by omega) (by omega) (by omega) w
        rwa [show A.ub - -c = A.ub + c by omega, show A.ue - -1 = A.ue + 1 by omega] at this
      go_wp2_with fail
      refine (hm.out _).mono ?_
      rintro e w2 ⟨rfl, hb2⟩
      have h6 : AccAt w2 b A := Blk.below h5 hb2 (Blk.lt h5)
      have hg2 := only_trans hg (only_of_below hb2 (some b))
      clear hb2 hg h5 c0 c1 c2 c3
      obtain ⟨c0, c1, c2, c3⟩ := h6.cells
      have f2 := Blk.frozen h6 2
      have f3 := Blk.frozen h6 3
      go_wp2_with fail
      go_ret
      rw [HE.out]
      exact ⟨rfl, Blk.set_ (Blk.set_ h6 2 _) 3 _, only_setCell (only_setCell hg2 (.inl rfl) _) (.inl rfl) _⟩
    · have HE := Lib.hid (acAdd_full hc h2)
      obtain ⟨c0, c1, c2, c3⟩ := AccAt.cells (Blk.alloc h (.cells #[.int .i64 c] 3))
      clear hc h
      go_enter Try.func12, Try.ntmps12
      go_wp2_with (go_at_call 30; refine (HC.out _ H.out).mono ?_; rintro e w' ⟨rfl, rfl⟩)
      go_ret
      rw [HE.out]
      exact ⟨rfl, Blk.alloc H.out _, only_alloc (only_refl _ _) _⟩

set_option maxHeartbeats 2000000 in
theorem rem_any (b : Nat) (A : Ac) (c : Int) (w : World) (h : AccAt w b A) (hA : AcOk A) (hc1 : -9223372036854775808 ≤ c) (hc2 : c ≤ 9223372036854775807) :
    Calls Try.prog 17 #[.pointer (some ⟨b, 0, none⟩), .int .i64 c] w fun e w' => e = .returned (.int .i64 (acRem A c).2) ∧ AccAt w' b (acRem A c).1 ∧ w.grownBy w' (some b) := by
  have hb0 := hA.b0
  have hu0 := hA.u0
  have hu1 := hA.u1
  have hs0 := hA.s0
  have hs1 := hA.s1
  have hbw := Blk.lt h
  cases hc : isCost c with
  | false =>
    have HE := Lib.hid (acRem_bad (A := A) hc)
    have HC : Hid (∀ W, AccAt W b A → Calls Try.prog 30 #[.pointer (some ⟨b, 0, none⟩), .slice (some ⟨W.heap.size, 0, none⟩) 1 1] (W.alloc (.cells #[.int .i64 c] 3)) fun e w' => e = .returned (.int .i64 3) ∧ W.alloc (.cells #[.int .i64 c] 3) = w') := fun W hW => by
      have := check_one b A c W hW hb0
      rwa [hc] at this
    have H := Lib.hid h
    clear hc h
    go_enter Try.func17, Try.ntmps17
    go_wp2_with (go_at_call 30; refine (HC.out _ H.out).mono ?_; rintro e w' ⟨rfl, rfl⟩)
    go_ret
    rw [HE.out]
    exact ⟨rfl, Blk.alloc H.out _, only_alloc (only_refl _ _) _⟩
  | true =>
    have h3 := (isCost_iff c).1 hc
    obtain ⟨h3, h4⟩ := h3
    have HC : Hid (∀ W, AccAt W b A → Calls Try.prog 30 #[.pointer (some ⟨b, 0, none⟩), .slice (some ⟨W.heap.size, 0, none⟩) 1 1] (W.alloc (.cells #[.int .i64 c] 3)) fun e w' => e = .returned (.int .i64 0) ∧ W.alloc (.cells #[.int .i64 c] 3) = w') := fun W hW => by
      have := check_one b A c W hW hb0
      rwa [hc] at this
    have HM : Hid (∀ w, Calls Try.prog 31 #[.agg #[.int .i64 A.ub, .int .i64 A.ue], .agg #[.int .i64 c, .int .i64 1]] w fun e w' => e = .returned (.agg #[.int .i64 (A.ub - c), .int .i64 (A.ue - 1)]) ∧ Below w.heap.size w w') := fun w =>
      minus_any A.ub A.ue c 1 (by omega) (by omega) (by omega) (by omega) w
    have H := Lib.hid h
    cases hf : fitsIn (A.ub - c) (A.ue - 1) with
    | true =>
      have HE := Lib.hid (acRem_ok hc hf)
      have HR : Hid (∀ w, Calls Try.prog 34 #[.agg #[.int .i64 (A.ub - c), .int .i64 (A.ue - 1)]] w fun e w' => e = .returned (.bool true) ∧ Below w.heap.size w w') := fun w => by
        have := right_any (A.ub - c) (A.ue - 1) (by omega) (by omega) w
        rwa [hf] at this
      clear hc h hf
      go_enter Try.func17, Try.ntmps17
      go_wp2_with fail
      refine (HC.out _ H.out).mono ?_
      rintro e w' ⟨rfl, rfl⟩
      have h5 : AccAt (w.alloc (.cells #[.int .i64 c] 3)) b A := Blk.alloc H.out _
      have hg : w.grownBy (w.alloc (.cells #[.int .i64 c] 3)) (some b) := only_alloc (only_refl _ _) _
      obtain ⟨W, hW⟩ : ∃ W, w.alloc (.cells #[.int .i64 c] 3) = W := ⟨_, rfl⟩
      rw [hW] at h5 hg ⊢
      clear hW
      obtain ⟨c0, c1, c2, c3⟩ := h5.cells
      go_wp2_with fail
      refine (HM.out _).mono ?_
      rintro e w2 ⟨rfl, hb2⟩
      have h6 : AccAt w2 b A := Blk.below h5 hb2 (Blk.lt h5)
      have hg2 := only_trans hg (only_of_below hb2 (some b))
      clear hb2 hg h5 c0 c1 c2 c3
      go_wp2_with fail
      refine (HR.out _).mono ?_
      rintro e w3 ⟨rfl, hb3⟩
      have h7 : AccAt (w2.alloc (.cells #[.int .i64 (A.ub - c), .int .i64 (A.ue - 1)] 54)) b A := Blk.alloc h6 _
      have h8 : AccAt w3 b A := Blk.below h7 hb3 (Blk.lt h7)
      have hk : Blk (w2.alloc (.cells #[.int .i64 (A.ub - c), .int .i64 (A.ue - 1)] 54)) w2.heap.size 54 #[.int .i64 (A.ub - c), .int .i64 (A.ue - 1)] := Blk.new _ _ _
      have hk3 := Blk.below hk hb3 (Blk.lt hk)
      have hg3 := only_trans (only_alloc hg2 (.cells #[.int .i64 (A.ub - c), .int .i64 (A.ue - 1)] 54)) (only_of_below hb3 (some b))
      clear hb3 hg2 h6 h7 hk
      obtain ⟨c0, c1, c2, c3⟩ := h8.cells
      have f2 := Blk.frozen h8 2
      have f3 := Blk.frozen h8 3
      have r0 := Blk.cell hk3 0
      have r1 := Blk.cell hk3 1
      simp only [List.getElem?_toArray, List.getElem?_cons_zero, List.getElem?_cons_succ] at r0 r1
      go_wp2_with fail
      go_ret
      rw [HE.out]
      exact ⟨rfl, Blk.set_ (Blk.set_ h8 2 _) 3 _, only_setCell (only_setCell hg3 (.inl rfl) _) (.inl rfl) _⟩
    | false =>
      have HE := Lib.hid (acRem_none hc hf)
      have HR : Hid (∀ w, Calls Try.prog 34 #[.agg #[.int .i64 (A.ub - c), .int .i64 (A.ue - 1)]] w fun e w' => e = .returned (.bool false) ∧ Below w.heap.size w w') := fun w => by
        have := right_any (A.ub - c) (A.ue - 1) (by omega) (by omega) w
        rwa [hf] at this
      clear hc h hf
      go_enter Try.func17, Try.ntmps17
      go_wp2_with fail
      refine (HC.out _ H.out).mono ?_
      rintro e w' ⟨rfl, rfl⟩
      have h5 : AccAt (w.alloc (.cells #[.int .i64 c] 3)) b A := Blk.alloc H.out _
      have hg : w.grownBy (w.alloc (.cells #[.int .i64 c] 3)) (some b) := only_alloc (only_refl _ _) _
      obtain ⟨W, hW⟩ : ∃ W, w.alloc (.cells #[.int .i64 c] 3) = W := ⟨_, rfl⟩
      rw [hW] at h5 hg ⊢
      clear hW
      obtain ⟨c0, c1, c2, c3⟩ := h5.cells
      go_wp2_with fail
      refine (HM.out _).mono ?_
      rintro e w2 ⟨rfl, hb2⟩
      have h6 : AccAt w2 b A := Blk.below h5 hb2 (Blk.lt h5)
      have hg2 := only_trans hg (only_of_below hb2 (some b))
      clear hb2 hg h5 c0 c1 c2 c3
      go_wp2_with fail
      refine (HR.out _).mono ?_
      rintro e w3 ⟨rfl, hb3⟩
      have h7 : AccAt (w2.alloc (.cells #[.int .i64 (A.ub - c), .int .i64 (A.ue - 1)] 54)) b A := Blk.alloc h6 _
      have h8 : AccAt w3 b A := Blk.below h7 hb3 (Blk.lt h7)
      have hk : Blk (w2.alloc (.cells #[.int .i64 (A.ub - c), .int .i64 (A.ue - 1)] 54)) w2.heap.size 54 #[.int .i64 (A.ub - c), .int .i64 (A.ue - 1)] := Blk.new _ _ _
      have hk3 := Blk.below hk hb3 (Blk.lt hk)
      have hg3 := only_trans (only_alloc hg2 (.cells #[.int .i64 (A.ub - c), .int .i64 (A.ue - 1)] 54)) (only_of_below hb3 (some b))
      clear hb3 hg2 h6 h7 hk
      obtain ⟨c0, c1, c2, c3⟩ := h8.cells
      have f2 := Blk.frozen h8 2
      have f3 := Blk.frozen h8 3
      have r0 := Blk.cell hk3 0
      have r1 := Blk.cell hk3 1
      simp only [List.getElem?_toArray, List.getElem?_cons_zero, List.getElem?_cons_succ] at r0 r1
      go_wp2_with fail
      go_ret
      rw [HE.out]
      exact ⟨rfl, h8, hg3⟩

set_option maxHeartbeats 2000000 in
theorem chg_any (b : Nat) (A : Ac) (c d : Int) (w : World) (h : AccAt w b A) (hA : AcOk A) (hc1 : -9223372036854775808 ≤ c) (hc2 : c ≤ 9223372036854775807) (hd1 : -9223372036854775808 ≤ d) (hd2 : d ≤ 9223372036854775807) :
    Calls Try.prog 15 #[.pointer (some ⟨b, 0, none⟩), .int .i64 c, .int .i64 d] w fun e w' => e = .returned (.int .i64 (acChg A c d).2) ∧ AccAt w' b (acChg A c d).1 ∧ w.grownBy w' (some b) := by
  have hb0 := hA.b0
  have hbw := Blk.lt h
  have H := Lib.hid h
  have HK := Lib.hid hA
  cases hc : (isCost c && isCost d) with
  | false =>
    have HE : Hid (acChg A c d = (A, 3)) := by show acChg A c d = _; simp [acChg, hc]
    have HC : Hid (∀ W, AccAt W b A → Calls Try.prog 30 #[.pointer (some ⟨b, 0, none⟩), .slice (some ⟨W.heap.size, 0, none⟩) 2 2] (W.alloc (.cells #[.int .i64 c, .int .i64 d] 3)) fun e w' => e = .returned (.int .i64 3) ∧ W.alloc (.cells #[.int .i64 c, .int .i64 d] 3) = w') := fun W hW => by
      have := check_two b A c d W hW hb0
      rwa [hc] at this
    clear hc h hA
    go_enter Try.func15, Try.ntmps15
    go_wp2_with (go_at_call 30; refine (HC.out _ H.out).mono ?_; rintro e w' ⟨rfl, rfl⟩)
    go_ret
    rw [HE.out]
    exact ⟨rfl, Blk.alloc H.out _, only_alloc (only_refl _ _) _⟩
  | true =>
    have HC : Hid (∀ W, AccAt W b A → Calls Try.prog 30 #[.pointer (some ⟨b, 0, none⟩), .slice (some ⟨W.heap.size, 0, none⟩) 2 2] (W.alloc (.cells #[.int .i64 c, .int .i64 d] 3)) fun e w' => e = .returned (.int .i64 0) ∧ W.alloc (.cells #[.int .i64 c, .int .i64 d] 3) = w') := fun W hW => by
      have := check_two b A c d W hW hb0
      rwa [hc] at this
    cases hr : (acRem A c).2 == 0 with
    | true =>
      have hr2 : (acRem A c).2 = 0 := by simpa using hr
      have HE : Hid (acChg A c d = acAdd (acRem A c).1 d) := by show acChg A c d = _; simp [acChg, hc, hr2]
      have HR : Hid (∀ W, AccAt W b A → Calls Try.prog 17 #[.pointer (some ⟨b, 0, none⟩), .int .i64 c] W fun e w' => e = .returned (.int .i64 0) ∧ AccAt w' b (acRem A c).1 ∧ W.grownBy w' (some b)) := fun W hW => by
        have := rem_any b A c W hW HK.out hc1 hc2
        rwa [hr2] at this
      have HK2 := Lib.hid (acRem_AcOk c hA)
      clear hc h hA hr hr2
      go_enter Try.func15, Try.ntmps15
      go_wp2_with fail
      refine (HC.out _ H.out).mono ?_
      rintro e w' ⟨rfl, rfl⟩
      go_wp2_with fail
      refine (HR.out _ (Blk.alloc H.out _)).mono ?_
      rintro e w2 ⟨rfl, h2, hg2⟩
      have H2 := Lib.hid h2
      clear h2
      go_wp2_with fail
      refine (add_any b _ d _ H2.out HK2.out hd1 hd2).mono ?_
      rintro e w3 ⟨rfl, h3, hg3⟩
      have H3 := Lib.hid h3
      clear h3
      go_wp2_with fail
      go_ret
      rw [HE.out]
      exact ⟨rfl, H3.out, only_trans (only_trans (only_alloc (only_refl _ _) _) hg2) hg3⟩
    | false =>
      have hr2 : ¬ (acRem A c).2 = 0 := by simpa using hr
      have HE : Hid (acChg A c d = acRem A c) := by show acChg A c d = _; simp [acChg, hc, hr2]
      obtain ⟨er, her⟩ : ∃ er, (acRem A c).2 = er := ⟨_, rfl⟩
      have HR : Hid (∀ W, AccAt W b A → Calls Try.prog 17 #[.pointer (some ⟨b, 0, none⟩), .int .i64 c] W fun e w' => e = .returned (.int .i64 er) ∧ AccAt w' b (acRem A c).1 ∧ W.grownBy w' (some b)) := fun W hW => by
        have := rem_any b A c W hW HK.out hc1 hc2
        rwa [her] at this
      rw [her] at hr
      have HER := Lib.hid her
      clear hc h hA hr2 her
      go_enter Try.func15, Try.ntmps15
      go_wp2_with fail
      refine (HC.out _ H.out).mono ?_
      rintro e w' ⟨rfl, rfl⟩
      go_wp2_with fail
      refine (HR.out _ (Blk.alloc H.out _)).mono ?_
      rintro e w2 ⟨rfl, h2, hg2⟩
      have H2 := Lib.hid h2
      clear h2
      go_wp2_with fail
      go_ret
      rw [HE.out, HER.out]
      exact ⟨rfl, H2.out, only_trans (only_alloc (only_refl _ _) _) hg2⟩
end Go.Proofs.Ytnfehdcinmgnjaa
